/- symbolic's trace. The queue's heap: what the slice of entries reads as; Less, Swap, Len walked. The library's heap over the queue's entries: up, down, Fix, Remove, Push, Pop: what they make of the list. The library's heap over the queue's entries: the slice's own Push, Pop, Len; heap.Fix, Remove, Push, Pop. The slice's own Push, and heap.Push. The plain laws of the heap: sifting up and down keep the entries, and make a heap; the first entry is a least one. No program in sight but for the entries' type. The queue: what it holds as a list of items and keys in the order in which the keys were set; New, Len, Key walked. The queue: Set walked, for a new item and for one that is there. No condition beyond what each theorem says. -/
import Derived.Test.YtjcgkmodmjckjaaGreatP9
import Derived.Test.YtjcgkmodmjckjaaGreatProg
import Derived.Test.YtjcgkmodmjckjaaGreatP1

namespace Go.Proofs.YtjcgkmodmjckjaaGreat
open Go.RowKit

/-- What trace hands back. -/
def TrPost (t : Tsk) (L : Nat) (T : Nat → Bool) (p0 : Nat) (w0 : World) (e : Ending) (w' : World) : Prop := Keeps (fun _ => False) w0 w' ∧ ∃ v q y, e = .returned v ∧ Ints w' v (intsP q) ∧ runOps (wordsOf t.ops) (wd t.init) q = some y ∧ y < 2 ^ L ∧ T y = true ∧ wayN 4096 1 (wordsOf t.ops) q = (p0 : Int) ∧ ∀ k, v.ownBlock = some k → w0.heap.size ≤ k

set_option maxRecDepth 100000 in
set_option maxHeartbeats 8000000 in
theorem trace_any (w0 w : World) (ss sb L : Nat) (N : List Dn) (G : Nat → Prop) (n : Int) (vi vg vo : Value) (gk : Nat) (t : Tsk) (l : List Nat) (db : Nat) (D : Nat → Option Nat) (at0 p0 : Nat) (h : StS w0 w ss sb L N G n vi vg vo gk) (hL : L ≤ 24) (hLn : t.n = (L : Int)) (hop : OpsAt w0 vo t.ops) (ok : t.Ok) (hx : explored t = some l) (hd : DmS w db D G) (hDI : DoneI L N (wordsOf t.ops) (wd t.init) D p0) (ha : at0 < N.length + 2) (h0 : at0 ≠ 0) (hT : ∀ m, m < 2 ^ L → dv N at0 m = true → Pd (wordsOf t.ops) (wd t.init) m p0) (hp0 : p0 ≤ 1000000000) (hbig : low N + 2475000000000 ≤ 5800000000000) :
    Calls Tryz.prog 42 #[.pointer (some ⟨ss, 0, none⟩), .map (some db), .int .i64 (at0 : Int), .int .i64 (p0 : Int)] w (TrPost t L (dv N at0) p0 w0) := by
  obtain ⟨j0, hj0, jz0, jz1, jz2⟩ := info_parts Tryz.info3
  obtain ⟨aw, cw, hvo, hmo⟩ := hop.form
  subst hvo
  have HOP := Lib.hid hop; have OK := Lib.hid ok; have HX := Lib.hid hx; have HTP := Lib.hid hT
  have HC0 := Lib.hid (show CostsOk (wordsOf t.ops) from sym_costs ok)
  have HRS := Lib.hid (reached_some (ops := wordsOf t.ops) (s := wd t.init) (l := l) hx)
  have HRE := Lib.hid (show ∀ q y, runOps (wordsOf t.ops) (wd t.init) q = some y → y ∈ l from fun q y h => (HRS.out.2.2.2 y).2 (reach_run q .refl h))
  have HLT2 := Lib.hid (show ∀ q y, runOps (wordsOf t.ops) (wd t.init) q = some y → y < 2 ^ L from fun q y h => by
    obtain ⟨g1, g2⟩ := good_explored OK.out HX.out y (HRE.out q y h)
    rw [← g2]; exact wd_lt (fun x hx => by have := (isSet_iff.1 g1).1 x hx; omega))
  have HTR := Lib.hid (show TrI L (wordsOf t.ops) (wd t.init) (dv N at0) p0 (dv N at0) p0 [] from by
    obtain ⟨z0, hz0, _, hz1⟩ := dv_some h.dg.ok at0 ha h0
    exact TrI.start ⟨z0, hz0, hz1⟩ hT)
  have HLY := Lib.hid (show LyS w0 w w.heap.size ss sb L n vi vg (.slice aw t.ops.length cw) gk N G (.slice none 0 0) (intsP []) from ⟨h, World.ownsRow_nil _ _ _ _, fun k h => absurd h (by simp [Value.ownBlock]), h.c0.2, h.k0.size⟩)
  have HDM := Lib.hid hd; have HDI := Lib.hid hDI; have HAT := Lib.hid ha; have HBG := Lib.hid hbig
  have h40 := ok.few
  have HDB := Lib.hid hd.1.lt
  clear h hop ok hx hT hd hDI ha hbig h0
  go_enter Tryz.func42, Tryz.ntmps42
  go_wp2_with fail
  go_loopw [2, 3, 9] (fun av pv ov wr => ∃ (a p : Nat) (out : List Nat) (N' : List Dn) (G' : Nat → Prop), av = .int .i64 (a : Int) ∧ pv = .int .i64 (p : Int) ∧ LyS w0 wr w.heap.size ss sb L n vi vg (.slice aw t.ops.length cw) gk N' G' ov (intsP out) ∧ DmS wr db D G' ∧ DoneI L N' (wordsOf t.ops) (wd t.init) D p0 ∧ a < N'.length + 2 ∧ TrI L (wordsOf t.ops) (wd t.init) (dv N at0) p0 (dv N' a) p out ∧ low N' ≤ low N + out.length * 1237400000 ∧ w.heap.size ≤ wr.heap.size) (fun _ pv _ _ => (intOf pv).toNat)
  case atStart => exact ⟨at0, p0, [], N, G, rfl, rfl, HLY.out, HDM.out, HDI.out, HAT.out, HTR.out, by simp, Nat.le_refl _⟩
  case round =>
    obtain ⟨a, p, out, N', G', rfl, rfl, hly, hdm, hdi, hal, htr, hlo, hsz⟩ := hrel
    obtain ⟨ar, cr, har⟩ := ownsRow_form1 hly.row
    subst har
    have HLR := Lib.hid hly; have HDR := Lib.hid hdm; have HDJ := Lib.hid hdi; have HAL := Lib.hid hal; have HTI := Lib.hid htr; have HLO := Lib.hid hlo
    have hpp : p ≤ p0 := by have h1 := htr.sum; have h2 := way_low HC0.out out.reverse; omega
    have hfew := htr.few HC0.out HRE.out HRS.out.2.1 HTP.out
    have HFW := Lib.hid hfew
    have hil : (intsP out).length = out.length := by simp [intsP]
    clear hly hdm hdi hal htr hlo HLY HDM HDI HAT HTR hfew
    by_cases hz : p = 0
    · subst hz
      clear hil
      go_wp2_with fail
      refine (reverse_any _ _ _ _ (intsP out) HLR.out.row (by have h1 := HFW.out.1; simp [intsP]; omega)).mono ?_
      rintro e' w5 ⟨rfl, hown2, hk5⟩
      have HO5 := Lib.hid hown2
      have K5 := Lib.hid (HLR.out.st.k0.trans' hk5 (fun b hb => .inr (by have h1 := (World.ownsRow.lt HLR.out.row b hb).1; have h2 := HLR.out.low; omega)))
      clear hown2 hk5
      go_wp2_with fail
      go_ret
      obtain ⟨y, g1, g2, g3, g4⟩ := HTI.out.last HC0.out
      refine ⟨K5.out, _, out.reverse, y, rfl, ?_, g3, g1, g2, g4, fun k hk => Nat.le_trans HLR.out.low (World.ownsRow.lt HLR.out.row k hk).1⟩
      have h1 := HO5.out
      have h3 : (intsP out).reverse = intsP out.reverse := by simp [intsP]
      have h2 : (intsP out).length = (intsP out.reverse).length := by simp [intsP]
      rw [h3] at h1
      generalize (Value.slice ar (intsP out).length cr) = v at h1 ⊢
      rw [h2] at h1
      exact Sl.of_own h1
    · have q1 : decide ((0 : Int) < (p : Int)) = true := by simp; omega
      have q1' : decide (0 < p) = true := by simp; omega
      have HPZ := Lib.hid hz
      obtain ⟨m0, hm0, hm1⟩ := HTI.out.some_
      have hne : a ≠ 0 := fun e => by subst e; rw [dv_zero] at hm1; cases hm1
      have HC1 := Lib.hid (pick_any wr sb L N' G' a HLR.out.st.dg hL HAL.out hne)
      obtain ⟨c0, c0l⟩ := HLR.out.st.c0
      have HIL := Lib.hid hil
      clear m0 hm0 hm1 hne hz hil
      go_wp2_with fail
      refine HC1.out.mono ?_; rintro e w5 ⟨v, lo, rfl, hv, hlb, hll, hdv, hk5⟩
      obtain ⟨av, cv, rfl, _⟩ := hv.form
      have HV := Lib.hid hv
      have HML := Lib.hid (show wd (intsP lo) < 2 ^ L from wd_lt (fun x hx => by
        obtain ⟨y, hy, rfl⟩ := List.mem_map.1 hx
        have := hlb y hy; omega))
      have HMV := Lib.hid hdv
      have HL5 := Lib.hid (HLR.out.keeps0 hk5); have HD5 := Lib.hid (HDR.out.keeps0 hk5)
      have hs5 := Nat.le_trans hsz hk5.size
      have HLB := Lib.hid (show ∀ x ∈ intsP lo, 0 ≤ x ∧ x < 32 from fun x hx => by
        obtain ⟨y, hy, rfl⟩ := List.mem_map.1 hx
        have := hlb y hy; omega)
      clear hv hlb hll hdv hk5 c0 c0l HLR HDR HC1 q1 q1'
      obtain ⟨c0, c0l⟩ := HL5.out.st.c0
      go_upto_region 4 with fail
      have KD := (Keeps.refl (fun _ => False) w5).drew
      have HLD := Lib.hid (HL5.out.keeps0 KD); have HDD := Lib.hid (HD5.out.keeps0 KD)
      have HC1 := Lib.hid (word_any w5.drew _ (intsP lo) (HV.out.keeps0 KD) HLB.out)
      have HC2 := Lib.hid (cube_any w5.drew sb L (wd (intsP lo)) N' G' HLD.out.st.dg hL (by have h1 := HLO.out; have h2 := HBG.out; have h3 := HFW.out.1; omega))
      have e0 := KD.cell c0 (fun h => h)
      have hsD := Nat.le_trans hs5 KD.size
      clear KD
      go_region_held3 (fun w' => w'.cell? ⟨ss, 0, none⟩ = some (.pointer (some ⟨sb, 0, none⟩)))
        (go_keep)
        (first
          | (go_at_call 26; refine HC1.out.mono ?_; rintro en w6 ⟨rfl, hw6⟩; rw [← hw6]; clear hw6 w6)
          | (go_at_call 25; refine HC2.out.mono ?_; rintro en w6 ⟨k1, N1, G1, rfl, hp1, hd1, hk1, hn1⟩; have HP1 := Lib.hid hp1; have HL6 := Lib.hid (HLD.out.op hd1 hk1 hn1); have HD6 := Lib.hid (HDD.out.op hk1 hn1); have HS6 := Lib.hid (Nat.le_trans hsD hk1.size); have t0 := HL6.out.st.c0.1; clear hp1 hd1 hk1 hn1))
      all_goals
        have HDI1 := Lib.hid (HDJ.out.le HLD.out.st.dg.ok HP1.out.le)
        have HV1 := Lib.hid (show dv N1 k1 = cubeS L (wd (intsP lo)) 0 from funext fun z => HP1.out.val z)
        have HLW1 := Lib.hid (show low N1 ≤ low N + out.length * 1237400000 + 24 from by have h1 := HP1.out.cnt; have h2 := HLO.out; omega)
        have HK1 := Lib.hid (show k1 < N1.length + 2 from HP1.out.lt)
        generalize wd (intsP lo) = m at HML HMV HV1
        clear t0 c0 c0l e0 HC1 HC2 HV HLB HP1 HLD HDD HL5 HD5 hs5 hsD
        have c4 : w6.cell? ⟨ss, 4, none⟩ = some (.slice aw t.ops.length cw) := (cell_of_blk HL6.out.st.blk).trans rfl
        have c4l := HL6.out.st.c0.2
        go_wp2_with fail
        go_loopw [2, 3, 9, 40] (fun av2 pv2 ov2 iv wq => ∃ (j : Nat) (N2 : List Dn) (G2 : Nat → Prop), av2 = .int .i64 (k1 : Int) ∧ pv2 = .int .i64 (p : Int) ∧ ov2 = .slice ar (intsP out).length cr ∧ iv = .int .i64 (j : Int) ∧ j ≤ t.ops.length ∧ LyS w0 wq w.heap.size ss sb L n vi vg (.slice aw t.ops.length cw) gk N2 G2 (.slice ar (intsP out).length cr) (intsP out) ∧ DmS wq db D G2 ∧ DgLe N1 N2 ∧ low N2 ≤ low N1 + j * 30932967 ∧ (∀ i, i < j → ∀ o, t.ops[i]? = some o → ∀ z p', Pd (wordsOf t.ops) (wd t.init) z p' → o.word.can z = true → o.word.next z = m → p = p' + prcN o.word → False) ∧ w.heap.size ≤ wq.heap.size) (fun _ _ _ iv _ => t.ops.length - (intOf iv).toNat)
        case atStart => exact ⟨0, N1, G1, rfl, rfl, rfl, rfl, Nat.zero_le _, HL6.out, HD6.out, DgLe.refl _, by omega, fun i hi => by omega, HS6.out⟩
        case round =>
          obtain ⟨j, N2, G2, rfl, rfl, rfl, rfl, hj, hlq, hdq, hle, hlow2, hms, hszq⟩ := hrel
          have HLQ := Lib.hid hlq; have HDQ := Lib.hid hdq; have HLE := Lib.hid hle; have HLW := Lib.hid hlow2; have HMS := Lib.hid hms
          clear hlq hdq hle hlow2 hms
          by_cases hlt : j < t.ops.length
          · obtain ⟨bo, oo, hao, hcell⟩ := HOP.out.cell rfl (by omega)
            cases hao
            obtain ⟨o, ho⟩ : ∃ o, t.ops[j]? = some o := ⟨_, List.getElem?_eq_getElem hlt⟩
            have hok := OK.out.ops o (List.mem_of_getElem? ho)
            rw [hLn] at hok
            have hcst : 0 ≤ o.cost ∧ o.cost ≤ 100 := HC0.out o.word (List.mem_of_getElem? (words_of ho))
            have HPR := Lib.hid (show ((prcN o.word : Nat) : Int) = 4096 * o.cost + 1 from prcN_int HC0.out (words_of ho))
            obtain ⟨f1, f2, f3, f4⟩ := opr_few hL hok
            have HCO := Lib.hid (bef_cost f4 (opC_le k1) (litC_le ((isSet_iff.1 hok.pre).2.imp (fun h => by omega)) (isSet_iff.1 hok.pre).1 hL))
            obtain ⟨va, vb, vc, u0, u1, u2, u3, i1, i2, i3⟩ := hcell j o ho
            have r0 := HLQ.out.st.k0.cell u0 (fun h => h); have r1 := HLQ.out.st.k0.cell u1 (fun h => h); have r2 := HLQ.out.st.k0.cell u2 (fun h => h); have r3 := HLQ.out.st.k0.cell u3 (fun h => h)
            obtain ⟨a1, c1, g1, _⟩ := i1.form
            obtain ⟨a2, c2, g2, _⟩ := i2.form
            obtain ⟨a3, c3, g3, _⟩ := i3.form
            subst g1 g2 g3
            have K7 := (Keeps.refl (fun _ => False) wr).alloc (.cells #[.slice a1 o.pre.length c1, .slice a2 o.add.length c2, .slice a3 o.del.length c3, .int .i64 o.cost] 72)
            have HX7 := Lib.hid (heap_alloc_new wr (.cells #[.slice a1 o.pre.length c1, .slice a2 o.add.length c2, .slice a3 o.del.length c3, .int .i64 o.cost] 72))
            have HL7 := Lib.hid (HLQ.out.keeps0 K7); have HD7 := Lib.hid (HDQ.out.keeps0 K7)
            have HOK := Lib.hid hok; have HJ := Lib.hid ho; have HLT3 := Lib.hid hlt
            have HFF := Lib.hid (And.intro f1 (And.intro f2 f3))
            have hs7 := Nat.le_trans hszq K7.size
            have hpb : p ≤ 1000000000 := by omega
            clear hcell u0 u1 u2 u3 i1 i2 i3 K7 ho hok f1 f2 f3 f4 hlt c4 c4l
            go_upto_region 8 with fail
            generalize (wr.alloc (.cells #[.slice a1 o.pre.length c1, .slice a2 o.add.length c2, .slice a3 o.del.length c3, .int .i64 o.cost] 72)) = w7 at HX7 HL7 HD7 hs7 ⊢
            generalize wr.heap.size = bx at HX7 ⊢
            have x3 : w7.cell? ⟨bx, 3, none⟩ = some (.int .i64 o.cost) := (cell_of_blk HX7.out).trans rfl
            have xl := lt_of_heap HX7.out
            clear r0 r1 r2 r3
            go_wp2_with fail
            refine (sprice_any _ _ ⟨hcst.1, by omega⟩).mono ?_; rintro e w8 ⟨rfl, hw8⟩
            rw [← hw8]; clear hw8 w8
            go_upto_region 9 with fail
            obtain ⟨fr, hfr⟩ : ∃ fr : Int, (p : Int) - (4096 * o.cost + 1) = fr := ⟨_, rfl⟩
            rw [hfr]
            have HFR := Lib.hid (show fr = (p : Int) - (prcN o.word : Int) from by have h1 := HPR.out; omega)
            obtain ⟨kd, hkd⟩ := look_is D fr
            have HKD := Lib.hid hkd
            have KD := (Keeps.refl (fun _ => False) w7).drew
            have HL8 := Lib.hid (HL7.out.keeps0 KD); have HD8 := Lib.hid (HD7.out.keeps0 KD)
            have hs8 := Nat.le_trans hs7 KD.size
            have HKL := Lib.hid (show k1 < N2.length + 2 ∧ kd < N2.length + 2 from ⟨by have h1 := HLE.out.len; have h2 := HK1.out; omega, (HDI1.out.le HL6.out.st.dg.ok HLE.out).look hkd⟩)
            have HLB := Lib.hid (show low N2 + 31000000 ≤ 5800000000000 from by have h1 := HLW.out; have h2 := HLW1.out; have h3 := HFW.out.2 HPZ.out; have h4 := HBG.out; omega)
            have HC2 := Lib.hid (before_any w0 w7.drew ss sb L N2 G2 n vi vg _ gk k1 j t.ops o HL8.out.st hL HOP.out HJ.out h40 HKL.out.1 (isSet_iff.1 HOK.out.pre).1 (isSet_iff.1 HOK.out.add).1 (isSet_iff.1 HOK.out.del).1 HFF.out.1 HFF.out.2.1 HFF.out.2.2 (by have h1 := HCO.out; have h2 := HLB.out; omega))
            have e0 := HL8.out.st.c0.1
            have hlk0 := HD8.out.look HKD.out
            clear hkd KD x3 xl hfr hcst hpb
            go_region_held3 (fun w' => w'.cell? ⟨ss, 0, none⟩ = some (.pointer (some ⟨sb, 0, none⟩)))
              (go_keep)
              (first
                | (go_at_call 40; refine HC3.out.mono ?_; rintro en w11 ⟨x, N4, G4, rfl, hp4, hd4, hk4, hn4⟩; have HP4 := Lib.hid hp4; have HL11 := Lib.hid (HL10.out.op hd4 hk4 hn4); have HD11 := Lib.hid (HD10.out.op hk4 hn4); have HS11 := Lib.hid (Nat.le_trans HS10.out hk4.size); have t1 := HL11.out.st.c0.1; clear hp4 hd4 hk4 hn4)
                | (go_at_call 77; refine HC2.out.mono ?_; rintro en w10 ⟨k2, N3, G3, rfl, hp3, hz3, hs3, hk3, hn3⟩; have HP3 := Lib.hid hp3; have HL10 := Lib.hid (HL8.out.opS hs3 hk3 hn3); have HD10 := Lib.hid (HD8.out.op hk3 hn3); have HS10 := Lib.hid (Nat.le_trans hs8 hk3.size); have hlk := HD10.out.look HKD.out; have t0 := HL10.out.st.c0.1; have HC3 := Lib.hid (and_any w10 sb L N3 G3 k2 kd hs3.dg hL hp3.lt (by have h1 := hp3.le.len; have h2 := HKL.out.2; omega) (by have h1 := hp3.cnt; have h2 := HCO.out; have h3 := HLB.out; have h4 := lowB_le L (min (lev L N3 k2) (lev L N3 kd)); omega)); clear hp3 hz3 hs3 hk3 hn3))
            all_goals
              have HVX := Lib.hid (show ∀ z, dv N4 x z = (tryS L m o z && dv N1 kd z) from fun z => by
                have e1 : dv N2 k1 = cubeS L m 0 := by rw [← HV1.out]; exact funext fun z => HLE.out.dv HL6.out.st.dg.ok HK1.out z
                have e2 : dv N3 kd z = dv N1 kd z := by rw [HP3.out.le.dv HL8.out.st.dg.ok HKL.out.2, HLE.out.dv HL6.out.st.dg.ok (HDI1.out.look HKD.out)]
                rw [HP4.out.val, HP3.out.val, e1, e2]; rfl)
              have HLE4 := Lib.hid ((HLE.out.trans HP3.out.le).trans HP4.out.le)
              have HLW4 := Lib.hid (show low N4 ≤ low N1 + (j + 1) * 30932967 from by have h1 := HP3.out.cnt; have h2 := HCO.out; have h3 := HP4.out.cnt; have h4 := lowB_le L (min (lev L N3 k2) (lev L N3 kd)); have h5 := HLW.out; omega)
              have HXL := Lib.hid (show x < N4.length + 2 from HP4.out.lt)
              clear hlk hlk0 t0 t1 e0 HC2 HC3 HP3 HP4 HL10 HD10 HS10 HL8 HD8 HX7 HL7 HD7
              by_cases hx0 : x = 0
              · subst hx0
                have HM2 := Lib.hid (tr_miss hL HOK.out HML.out HDI1.out hpp HLT2.out HFR.out HVX.out HKD.out)
                go_wp2_with fail
                go_roundw
                case rel =>
                  refine ⟨j + 1, N4, G4, rfl, rfl, rfl, by go_num, HLT3.out, HL11.out, HD11.out, HLE4.out, HLW4.out, fun i hi o' ho' => ?_, HS11.out⟩
                  by_cases hij : i = j
                  · subst hij
                    have := HJ.out.symm.trans ho'
                    cases this
                    exact HM2.out
                  · exact HMS.out i (by omega) o' ho'
                case measure => simp [intOf]; have := HLT3.out; omega
              · have q1 : ((x : Int) != 0) = true := by simpa using hx0
                obtain ⟨p', hfp, hsm, hall⟩ := tr_hit hL HOK.out HML.out HDI1.out HL11.out.st.dg.ok HXL.out hx0 HVX.out HKD.out
                subst hfp
                have HTN := Lib.hid (HTI.out.next HC0.out HML.out HMV.out (words_of HJ.out) (show p = p' + prcN o.word from by have h1 := HFR.out; omega) hsm hall)
                have HPP := Lib.hid (show p' < p from by have h1 := HFR.out; have h2 := HPR.out; unfold prcN at h1; omega)
                have hx11 := HS11.out
                have hol : (intsP out).length ≤ 2000 := by have h1 := HIL.out; have h2 := HFW.out.1; omega
                have KA := (Keeps.refl (fun _ => False) w11).alloc (.cells #[.int .i64 (j : Int)] 3)
                clear HVX HKD hsm hall hx0
                go_wp2_with (at_builtin; refine wpList_append_lies _ rfl _ _ _ rfl w.heap.size 3 j0 _ 1 8 Tryz.underlying22 hj0 jz0 jz1 jz2 rfl (by omega) _ (intsP out).length ((intsP out).map (Value.int .i64)) (by rfl) (World.ownsRow.alloc (o := .cells #[.int .i64 (j : Int)] 3) HL11.out.row) ⟨w11.heap.size, 0, none⟩ 1 1 [.int .i64 (j : Int)] (by rfl) (by rfl) ?hnews ?hone (by omega) (by unfold maxLen; omega) (by omega) (by simp; omega) (w11.heap.size + 1) (by simp) ?_)
                case hnews => exact World.news_of_block (cs := #[.int .i64 (j : Int)]) (t := 3) (fr := (0, 0)) (heap_alloc_new _ _)
                case hone => simp [Value.oneCell']
                intro g cap2 w12 hown hgrow hat hlt12
                have e1 : intsP (out ++ [j]) = intsP out ++ [(j : Int)] := by simp [intsP]
                have HL12 := Lib.hid (LyS.grow (HL11.out.keeps0 KA) (steady_keeps hgrow) (ov' := .slice (some ⟨g, 0, none⟩) ((intsP out).length + 1) cap2) (out' := intsP (out ++ [j])) (by rw [e1, List.length_append, List.map_append]; exact hown) (fun k hk => by cases hk; exact hat.imp (fun h => h) (fun h => by simp; omega)))
                have HD12 := Lib.hid (DmS.keeps (HD11.out.keeps0 KA) (steady_keeps hgrow) (fun e => by have h1 := (World.ownsRow.lt HL11.out.row db e).1; have h2 := HDB.out; omega))
                have HS12 := Lib.hid (show w.heap.size ≤ w12.heap.size from by have h1 := (steady_keeps hgrow).size; simp at h1; omega)
                clear hown hgrow hat hlt12 KA hx11 hol e1
                go_wp2_with fail
                go_roundw
                case rel =>
                  refine ⟨x, p', out ++ [j], N4, G4, rfl, rfl, HL12.out, HD12.out, HDI1.out.le HL6.out.st.dg.ok HLE4.out, HXL.out, HTN.out, ?_, HS12.out⟩
                  rw [List.length_append, List.length_singleton]
                  have h1 := HLW4.out; have h2 := HLW1.out; have h3 := HLT3.out
                  omega
                case measure => simp [intOf]; have := HPP.out; omega
          · exfalso
            obtain ⟨x, i, p', op, g1, g2, g3, g4, g5⟩ := (HTI.out.pd m HML.out HMV.out).prev HC0.out HPZ.out
            obtain ⟨o, g6, rfl⟩ := words_at g2
            have hil := (List.getElem?_eq_some_iff.1 g6).1
            exact HMS.out i (by omega) o g6 x p' g1 g3 g4 g5

end Go.Proofs.YtjcgkmodmjckjaaGreat

namespace Go.Proofs.YtjcgkmodmjckjaaGreat.V
open Go.RowKit

structure Ent where
  blk : Nat
  item : Int
  key : Int
  time : Int

def Ent.ptr (e : Ent) : Value := .pointer (some ⟨e.blk, 0, none⟩)

def lessE (a b : Ent) : Bool := decide (a.key < b.key) || (a.key == b.key && decide (a.time < b.time))

/-- The slice v of entries reads as L in w. -/
structure HRep (w : World) (v : Value) (L : List Ent) : Prop where
  row : w.ownsRow 0 118 1 v L.length (L.map Ent.ptr)
  ent : ∀ (i : Nat) (e : Ent), L[i]? = some e → w.heap[e.blk]? = some (.cells #[.int .i64 e.item, .int .i64 e.key, .int .i64 e.time, .int .i64 (i : Int)] 121 (0, 0))
  small : L.length ≤ 1000000

theorem HRep.form {w : World} {v : Value} {L : List Ent} (h : HRep w v L) (hn : 0 < L.length) :
    ∃ H cap cur, v = .slice (some ⟨H, 0, none⟩) L.length cap ∧ w.heap[H]? = some (.cells cur 118 (0, 0)) ∧ cur.size = cap ∧ L.length ≤ cap ∧ ∀ (i : Nat) (e : Ent), L[i]? = some e → cur[i]? = some e.ptr := by
  rcases h.row.2 with ⟨_, h0⟩ | ⟨g, cap, cur, hv, _, hg, hn, hm, hs, ht⟩
  · omega
  · refine ⟨g, cap, cur, hv, hg, by omega, hn, fun i e he => ?_⟩
    have hi : i < L.length := (List.getElem?_eq_some_iff.1 he).1
    have : (cur.toList.take (L.length * 1))[i]? = some e.ptr := by rw [ht, List.getElem?_map, he]; rfl
    rw [List.getElem?_take, if_pos (by omega)] at this
    simpa using this

theorem HRep.cell {w : World} {v : Value} {L : List Ent} (h : HRep w v L) {H cap : Nat} (hv : v = .slice (some ⟨H, 0, none⟩) L.length cap) {i : Nat} {e : Ent} (hi : L[i]? = some e) :
    w.cell? ⟨H, i, none⟩ = some (.pointer (some ⟨e.blk, 0, none⟩)) := by
  have hl : i < L.length := (List.getElem?_eq_some_iff.1 hi).1
  obtain ⟨H', cap', cur, hv', hb, hs, hc, hcur⟩ := h.form (by omega)
  rw [hv] at hv'
  simp only [Value.slice.injEq, Option.some.injEq, Addr.mk.injEq] at hv'
  obtain ⟨⟨rfl, _⟩, _⟩ := hv'
  rw [cell_of_blk hb, hcur i e hi]; rfl

theorem HRep.e1 {w : World} {v : Value} {L : List Ent} (h : HRep w v L) {i : Nat} {e : Ent} (hi : L[i]? = some e) : w.cell? ⟨e.blk, 1, none⟩ = some (.int .i64 e.key) := by rw [cell_of_blk (h.ent i e hi)]; rfl
theorem HRep.e2 {w : World} {v : Value} {L : List Ent} (h : HRep w v L) {i : Nat} {e : Ent} (hi : L[i]? = some e) : w.cell? ⟨e.blk, 2, none⟩ = some (.int .i64 e.time) := by rw [cell_of_blk (h.ent i e hi)]; rfl
theorem HRep.e3 {w : World} {v : Value} {L : List Ent} (h : HRep w v L) {i : Nat} {e : Ent} (hi : L[i]? = some e) : w.cell? ⟨e.blk, 3, none⟩ = some (.int .i64 (i : Int)) := by rw [cell_of_blk (h.ent i e hi)]; rfl

set_option maxRecDepth 100000 in
set_option maxHeartbeats 1000000 in
theorem less_any (w : World) (v : Value) (L : List Ent) (h : HRep w v L) (i k : Nat) (ei ek : Ent) (hi : L[i]? = some ei) (hk : L[k]? = some ek) :
    Calls Tryz.prog 192 #[v, .int .i64 (i : Int), .int .i64 (k : Int)] w fun e w' => e = .returned (.bool (lessE ei ek)) ∧ ∃ n, w' = w.drewN n := by
  have li : i < L.length := (List.getElem?_eq_some_iff.1 hi).1
  have lk : k < L.length := (List.getElem?_eq_some_iff.1 hk).1
  have hsm := h.small
  obtain ⟨H, cap, cur, hv, -, -, -, -⟩ := h.form (by omega)
  have ci := h.cell hv hi
  have ck := h.cell hv hk
  have ci1 := h.e1 hi
  have ck1 := h.e1 hk
  have ci2 := h.e2 hi
  have ck2 := h.e2 hk
  subst hv
  clear h hi hk
  have i0 : (0 : Int) ≤ (i : Int) := by omega
  have k0 : (0 : Int) ≤ (k : Int) := by omega
  have il : (i : Int) < (L.length : Int) := by omega
  have kl : (k : Int) < (L.length : Int) := by omega
  by_cases h1 : ei.key < ek.key
  · have hr : lessE ei ek = true := by simp [lessE, h1]
    have HR := Lib.hid hr; clear hr
    have h1' : decide (ei.key < ek.key) = true := by simpa using h1
    go_enter Tryz.func192, Tryz.ntmps192
    go_wp2
    go_quiet (fail)
    go_wp2
    go_ret
    exact ⟨congrArg (fun b => Ending.returned (Value.bool b)) HR.out.symm, nq, rfl⟩
  · by_cases h2 : ei.key = ek.key
    · have hr : lessE ei ek = decide (ei.time < ek.time) := by simp [lessE, h2]
      have HR := Lib.hid hr; clear hr
      have h1' : decide (ei.key < ek.key) = false := by simpa using h1
      have h2' : (ei.key == ek.key) = true := by simpa using h2
      have H2 := Lib.hid h2; clear h2
      go_enter Tryz.func192, Tryz.ntmps192
      go_wp2
      go_quiet (fail)
      go_wp2
      go_ret
      exact ⟨congrArg (fun b => Ending.returned (Value.bool b)) HR.out.symm, nq, rfl⟩
    · have hr : lessE ei ek = false := by simp [lessE, h1, h2]
      have HR := Lib.hid hr; clear hr
      have h1' : decide (ei.key < ek.key) = false := by simpa using h1
      have h2' : (ei.key == ek.key) = false := by simpa using h2
      go_enter Tryz.func192, Tryz.ntmps192
      go_wp2
      go_quiet (fail)
      go_wp2
      go_ret
      exact ⟨congrArg (fun b => Ending.returned (Value.bool b)) HR.out.symm, nq, rfl⟩

/-! ### Swap -/
def swp (L : List Ent) (i k : Nat) : List Ent :=
  match L[i]?, L[k]? with
  | some a, some b => (L.set i b).set k a
  | _, _ => L

theorem swp_eq {L : List Ent} {i k : Nat} {a b : Ent} (hi : L[i]? = some a) (hk : L[k]? = some b) : swp L i k = (L.set i b).set k a := by simp [swp, hi, hk]

theorem length_swp (L : List Ent) (i k : Nat) : (swp L i k).length = L.length := by
  unfold swp; split <;> simp

theorem get_swp {L : List Ent} {i k : Nat} {a b : Ent} (hi : L[i]? = some a) (hk : L[k]? = some b) (j : Nat) :
    (swp L i k)[j]? = if j = k then some a else if j = i then some b else L[j]? := by
  have li : i < L.length := (List.getElem?_eq_some_iff.1 hi).1
  have lk : k < L.length := (List.getElem?_eq_some_iff.1 hk).1
  rw [swp_eq hi hk, List.getElem?_set]
  by_cases h : k = j
  · subst h; simp [lk]
  · rw [if_neg h, if_neg (fun e => h e.symm), List.getElem?_set]
    by_cases h' : i = j
    · subst h'; simp [li]
    · rw [if_neg h', if_neg (fun e => h' e.symm)]

theorem swp_self {L : List Ent} {i : Nat} {a : Ent} (hi : L[i]? = some a) : swp L i i = L := by
  apply List.ext_getElem?
  intro j
  rw [get_swp hi hi]
  by_cases h : j = i
  · subst h; simp [hi]
  · simp [h]

def hfoot (v : Value) (L : List Ent) (b : Nat) : Prop := v.ownBlock = some b ∨ ∃ e ∈ L, e.blk = b

theorem mem_swp {L : List Ent} {i k : Nat} {e : Ent} : e ∈ swp L i k → e ∈ L := by
  intro h
  cases hi : L[i]? with
  | none => simpa [swp, hi] using h
  | some a =>
    cases hk : L[k]? with
    | none => simpa [swp, hi, hk] using h
    | some b =>
      obtain ⟨j, hj⟩ := List.mem_iff_getElem?.1 h
      rw [get_swp hi hk] at hj
      split at hj
      · exact (Option.some.inj hj) ▸ List.mem_of_getElem? hi
      · split at hj
        · exact (Option.some.inj hj) ▸ List.mem_of_getElem? hk
        · exact List.mem_of_getElem? hj

theorem HRep.inj {w : World} {v : Value} {L : List Ent} (h : HRep w v L) {i k : Nat} {a b : Ent} (hi : L[i]? = some a) (hk : L[k]? = some b) (e : a.blk = b.blk) : i = k := by
  have x := h.ent i a hi
  rw [e, h.ent k b hk] at x
  simp at x
  omega

theorem HRep.ne_row {w : World} {v : Value} {L : List Ent} (h : HRep w v L) {i : Nat} {a : Ent} (hi : L[i]? = some a) {g : Nat} (hg : v.ownBlock = some g) : a.blk ≠ g := by
  have hl : i < L.length := (List.getElem?_eq_some_iff.1 hi).1
  obtain ⟨H, cap, cur, hv, hb, _⟩ := h.form (by omega)
  rw [hv] at hg
  obtain rfl : H = g := by simpa [Value.ownBlock] using hg
  rintro rfl
  rw [h.ent i a hi] at hb
  simp at hb

theorem HRep.lt {w : World} {v : Value} {L : List Ent} (h : HRep w v L) {b : Nat} (hb : hfoot v L b) : b < w.heap.size := by
  rcases hb with hb | ⟨e, he, rfl⟩
  · exact (h.row.lt b hb).2
  · obtain ⟨j, hj⟩ := List.mem_iff_getElem?.1 he
    exact lt_of_heap (h.ent j e hj)

theorem HRep.keeps {S : Nat → Prop} {w w' : World} {v : Value} {L : List Ent} (h : HRep w v L) (hk : Keeps S w w') (hs : ∀ b, hfoot v L b → ¬ S b) : HRep w' v L :=
  ⟨hk.ownsRow h.row (fun b hb => hs b (.inl hb)), fun i e hi => hk.heap (h.ent i e hi) (hs _ (.inr ⟨e, List.mem_of_getElem? hi, rfl⟩)), h.small⟩

theorem HRep.drewN {w : World} {v : Value} {L : List Ent} (h : HRep w v L) (n : Nat) : HRep (w.drewN n) v L := ⟨h.row, h.ent, h.small⟩

structure SwapPost (w : World) (v : Value) (L : List Ent) (i k : Nat) (w' : World) : Prop where
  rep : HRep w' v (swp L i k)
  keeps : Keeps (hfoot v L) w w'

theorem swap_post {w : World} {H n cap : Nat} {L : List Ent} (h : HRep w (.slice (some ⟨H, 0, none⟩) n cap) L) {i k : Nat} {ei ek : Ent} (hi : L[i]? = some ei) (hk : L[k]? = some ek) (hne : i ≠ k) :
    SwapPost w (.slice (some ⟨H, 0, none⟩) n cap) L i k
      ((((w.setCell ⟨H, i, none⟩ (.pointer (some ⟨ek.blk, 0, none⟩))).setCell ⟨H, k, none⟩ (.pointer (some ⟨ei.blk, 0, none⟩))).setCell ⟨ek.blk, 3, none⟩ (.int .i64 (i : Int))).setCell ⟨ei.blk, 3, none⟩ (.int .i64 (k : Int))).drew.drew := by
  have li : i < L.length := (List.getElem?_eq_some_iff.1 hi).1
  have lk : k < L.length := (List.getElem?_eq_some_iff.1 hk).1
  have nH : ∀ (j : Nat) (e : Ent), L[j]? = some e → e.blk ≠ H := fun j e hj => h.ne_row hj rfl
  have hn : n = L.length := by
    have := h.row.2
    rcases this with ⟨hv, _⟩ | ⟨_, _, _, hv, _⟩ <;> simp at hv
    omega
  subst hn
  refine ⟨⟨?_, ?_, ?_⟩, ?_⟩
  · have r1 := h.row.stored i (.pointer (some ⟨ek.blk, 0, none⟩))
    have r2 := r1.1.stored k (.pointer (some ⟨ei.blk, 0, none⟩))
    have r3 : ((((w.setCell ⟨H, i, none⟩ (.pointer (some ⟨ek.blk, 0, none⟩))).setCell ⟨H, k, none⟩ (.pointer (some ⟨ei.blk, 0, none⟩))).setCell ⟨ek.blk, 3, none⟩ (.int .i64 (i : Int))).setCell ⟨ei.blk, 3, none⟩ (.int .i64 (k : Int))).ownsRow
        0 118 1 (.slice (some ⟨H, 0, none⟩) L.length cap) L.length (((L.map Ent.ptr).set i (.pointer (some ⟨ek.blk, 0, none⟩))).set k (.pointer (some ⟨ei.blk, 0, none⟩))) := by
      refine Keeps.ownsRow (S := fun b => b ≠ H) ?_ r2.1 ?_
      · exact ((Keeps.refl _ _).setCell (.inl (nH k ek hk)) _).setCell (.inl (nH i ei hi)) _
      · intro g hg; simp [Value.ownBlock] at hg; simp [hg]
    have e1 : (swp L i k).map Ent.ptr = ((L.map Ent.ptr).set i (.pointer (some ⟨ek.blk, 0, none⟩))).set k (.pointer (some ⟨ei.blk, 0, none⟩)) := by
      rw [swp_eq hi hk, List.map_set, List.map_set]; rfl
    rw [e1, length_swp]
    exact r3
  · intro j e hj
    rw [get_swp hi hk] at hj
    simp only [heap_drew]
    by_cases hjk : j = k
    · subst hjk
      rw [if_pos rfl] at hj
      obtain rfl := Option.some.inj hj
      have hx : (((w.setCell ⟨H, i, none⟩ (.pointer (some ⟨ek.blk, 0, none⟩))).setCell ⟨H, j, none⟩ (.pointer (some ⟨ei.blk, 0, none⟩))).setCell ⟨ek.blk, 3, none⟩ (.int .i64 (i : Int))).heap[ei.blk]? = some (.cells #[.int .i64 ei.item, .int .i64 ei.key, .int .i64 ei.time, .int .i64 (i : Int)] 121 (0, 0)) := by
        rw [blk_set_ne (fun e => hne (h.inj hi hk e)), blk_set_ne (nH i ei hi), blk_set_ne (nH i ei hi)]
        exact h.ent i ei hi
      rw [blk_set_same hx]; rfl
    · rw [if_neg hjk] at hj
      by_cases hji : j = i
      · subst hji
        rw [if_pos rfl] at hj
        obtain rfl := Option.some.inj hj
        have hx : ((w.setCell ⟨H, j, none⟩ (.pointer (some ⟨ek.blk, 0, none⟩))).setCell ⟨H, k, none⟩ (.pointer (some ⟨ei.blk, 0, none⟩))).heap[ek.blk]? = some (.cells #[.int .i64 ek.item, .int .i64 ek.key, .int .i64 ek.time, .int .i64 (k : Int)] 121 (0, 0)) := by
          rw [blk_set_ne (nH k ek hk), blk_set_ne (nH k ek hk)]
          exact h.ent k ek hk
        rw [blk_set_ne (fun e => hne (h.inj hi hk e.symm)), blk_set_same hx]; rfl
      · rw [if_neg hji] at hj
        rw [blk_set_ne (fun e => hji (h.inj hj hi e)), blk_set_ne (fun e => hjk (h.inj hj hk e)), blk_set_ne (nH j e hj), blk_set_ne (nH j e hj)]
        exact h.ent j e hj
  · rw [length_swp]; exact h.small
  · refine (((((Keeps.refl _ _).setCell (.inl ?_) _).setCell (.inl ?_) _).setCell (.inl ?_) _).setCell (.inl ?_) _).drew.drew
    · exact .inl rfl
    · exact .inl rfl
    · exact .inr ⟨ek, List.mem_of_getElem? hk, rfl⟩
    · exact .inr ⟨ei, List.mem_of_getElem? hi, rfl⟩

set_option maxRecDepth 100000 in
set_option maxHeartbeats 1000000 in
theorem swap_ne (w : World) (v : Value) (L : List Ent) (h : HRep w v L) (i k : Nat) (ei ek : Ent) (hi : L[i]? = some ei) (hk : L[k]? = some ek) (hne : i ≠ k) :
    Calls Tryz.prog 193 #[v, .int .i64 (i : Int), .int .i64 (k : Int)] w fun e w' => e = .returned (.tuple #[]) ∧ SwapPost w v L i k w' := by
  have li : i < L.length := (List.getElem?_eq_some_iff.1 hi).1
  have lk : k < L.length := (List.getElem?_eq_some_iff.1 hk).1
  have hsm := h.small
  obtain ⟨H, cap, cur, hv, hH, -, -, -⟩ := h.form (by omega)
  have ci := h.cell hv hi
  have ck := h.cell hv hk
  have ci3 := h.e3 hi
  have ck3 := h.e3 hk
  have fi : w.frozen? ⟨H, i, none⟩ = false := frozen_of_blk hH
  have fk : w.frozen? ⟨H, k, none⟩ = false := frozen_of_blk hH
  have fi3 : w.frozen? ⟨ei.blk, 3, none⟩ = false := frozen_of_blk (h.ent i ei hi)
  have fk3 : w.frozen? ⟨ek.blk, 3, none⟩ = false := frozen_of_blk (h.ent k ek hk)
  have n1 : ¬ H = ei.blk := by rintro rfl; rw [h.ent i ei hi] at hH; simp at hH
  have n2 : ¬ H = ek.blk := by rintro rfl; rw [h.ent k ek hk] at hH; simp at hH
  have n3 : ¬ ei.blk = ek.blk := fun e => hne (h.inj hi hk e)
  subst hv
  have HP := Lib.hid (swap_post h hi hk hne)
  clear h hi hk hH
  have i0 : (0 : Int) ≤ (i : Int) := by omega
  have k0 : (0 : Int) ≤ (k : Int) := by omega
  have il : (i : Int) < (L.length : Int) := by omega
  have kl : (k : Int) < (L.length : Int) := by omega
  have hne' : ¬ k = i := fun e => hne e.symm
  have n1' : ¬ ei.blk = H := fun e => n1 e.symm
  have n2' : ¬ ek.blk = H := fun e => n2 e.symm
  have n3' : ¬ ek.blk = ei.blk := fun e => n3 e.symm
  go_enter Tryz.func193, Tryz.ntmps193
  go_wp2
  go_region
  go_wp2
  go_region
  go_end0
  exact ⟨rfl, HP.out⟩

set_option maxRecDepth 100000 in
set_option maxHeartbeats 1000000 in
theorem swap_eq (w : World) (v : Value) (L : List Ent) (h : HRep w v L) (i : Nat) (ei : Ent) (hi : L[i]? = some ei) :
    Calls Tryz.prog 193 #[v, .int .i64 (i : Int), .int .i64 (i : Int)] w fun e w' => e = .returned (.tuple #[]) ∧ SwapPost w v L i i w' := by
  have li : i < L.length := (List.getElem?_eq_some_iff.1 hi).1
  have hsm := h.small
  obtain ⟨H, cap, cur, hv, hH, -, -, -⟩ := h.form (by omega)
  have ci := h.cell hv hi
  have ci3 := h.e3 hi
  have fi : w.frozen? ⟨H, i, none⟩ = false := frozen_of_blk hH
  have fi3 : w.frozen? ⟨ei.blk, 3, none⟩ = false := frozen_of_blk (h.ent i ei hi)
  have n1 : ¬ H = ei.blk := by rintro rfl; rw [h.ent i ei hi] at hH; simp at hH
  subst hv
  have HP : Hid (SwapPost w (.slice (some ⟨H, 0, none⟩) L.length cap) L i i ((((w.setCell ⟨H, i, none⟩ (.pointer (some ⟨ei.blk, 0, none⟩))).setCell ⟨H, i, none⟩ (.pointer (some ⟨ei.blk, 0, none⟩))).setCell ⟨ei.blk, 3, none⟩ (.int .i64 (i : Int))).setCell ⟨ei.blk, 3, none⟩ (.int .i64 (i : Int))).drew.drew) := by
    rw [setCell_id ci, setCell_id ci, setCell_id ci3, setCell_id ci3]
    exact ⟨by rw [swp_self hi]; exact h.drewN 2, (Keeps.refl _ _).drewN 2⟩
  have n1' : ¬ ei.blk = H := fun e => n1 e.symm
  have i0 : (0 : Int) ≤ (i : Int) := by omega
  have il : (i : Int) < (L.length : Int) := by omega
  clear h hi hH
  go_enter Tryz.func193, Tryz.ntmps193
  go_wp2
  go_region
  go_wp2
  go_region
  go_end0
  exact ⟨rfl, HP.out⟩

end Go.Proofs.YtjcgkmodmjckjaaGreat.V

namespace Go.Proofs.YtjcgkmodmjckjaaGreat.V
open Go.RowKit

theorem method_Less_raw (a : Addr) (w : World) : (method 362 123 (.pointer (some a)) "Less").run Tryz.prog w = (Sem.load .plain a fun v => .pure (192, v)).run Tryz.prog w := by kernel_rfl
theorem method_Less {a : Addr} {w : World} {v : Value} (h : w.cell? a = some v) : (method 362 123 (.pointer (some a)) "Less").run Tryz.prog w = .ok (192, v) w := by
  rw [method_Less_raw]; simp [Sem.run, h]
theorem method_Swap_raw (a : Addr) (w : World) : (method 362 123 (.pointer (some a)) "Swap").run Tryz.prog w = (Sem.load .plain a fun v => .pure (193, v)).run Tryz.prog w := by kernel_rfl
theorem method_Len_raw (a : Addr) (w : World) : (method 362 123 (.pointer (some a)) "Len").run Tryz.prog w = (Sem.load .plain a fun v => .pure (191, v)).run Tryz.prog w := by kernel_rfl
theorem method_Push_raw (a : Addr) (w : World) : (method 362 123 (.pointer (some a)) "Push").run Tryz.prog w = .ok (195, .pointer (some a)) w := by kernel_rfl
theorem method_Pop_raw (a : Addr) (w : World) : (method 362 123 (.pointer (some a)) "Pop").run Tryz.prog w = .ok (194, .pointer (some a)) w := by kernel_rfl

theorem method_Swap {a : Addr} {w : World} {v : Value} (h : w.cell? a = some v) : (method 362 123 (.pointer (some a)) "Swap").run Tryz.prog w = .ok (193, v) w := by
  rw [method_Swap_raw]; simp [Sem.run, h]
theorem method_Len {a : Addr} {w : World} {v : Value} (h : w.cell? a = some v) : (method 362 123 (.pointer (some a)) "Len").run Tryz.prog w = .ok (191, v) w := by
  rw [method_Len_raw]; simp [Sem.run, h]

theorem hfoot_swp {v : Value} {L : List Ent} {i k b : Nat} (h : hfoot v (swp L i k) b) : hfoot v L b := by
  rcases h with h | ⟨e, he, rfl⟩
  · exact .inl h
  · exact .inr ⟨e, mem_swp he, rfl⟩

def lessAt (L : List Ent) (i k : Nat) : Bool :=
  match L[i]?, L[k]? with
  | some a, some b => lessE a b
  | _, _ => false

theorem lessAt_eq {L : List Ent} {i k : Nat} {a b : Ent} (hi : L[i]? = some a) (hk : L[k]? = some b) : lessAt L i k = lessE a b := by simp [lessAt, hi, hk]

def upL (L : List Ent) (j : Nat) : List Ent :=
  if j = 0 then L else if lessAt L j ((j - 1) / 2) then upL (swp L ((j - 1) / 2) j) ((j - 1) / 2) else L
termination_by j
decreasing_by omega

/-- What a call that only turns the heap leaves behind. -/
structure HPost (w : World) (v : Value) (L L' : List Ent) (w' : World) : Prop where
  rep : HRep w' v L'
  keeps : Keeps (hfoot v L) w w'
  len : L'.length = L.length
  sub : ∀ b, hfoot v L' b → hfoot v L b

theorem HPost.refl {w : World} {v : Value} {L : List Ent} (h : HRep w v L) : HPost w v L L w := ⟨h, Keeps.refl _ _, rfl, fun _ h => h⟩

theorem HPost.drewN {w w' : World} {v : Value} {L L' : List Ent} (h : HPost w v L L' w') (n : Nat) : HPost w v L L' (w'.drewN n) := ⟨h.rep.drewN n, h.keeps.drewN n, h.len, h.sub⟩

theorem HPost.swap {w w' w'' : World} {v : Value} {L L' : List Ent} (h : HPost w v L L' w') {i k : Nat} (hs : SwapPost w' v L' i k w'') : HPost w v L (swp L' i k) w'' :=
  ⟨hs.rep, h.keeps.trans (hs.keeps.mono (fun b _ hb => h.sub b hb)), by rw [length_swp]; exact h.len, fun b hb => h.sub b (hfoot_swp hb)⟩

theorem HPost.trans {w w' w'' : World} {v : Value} {L L' L'' : List Ent} (h : HPost w v L L' w') (hs : HPost w' v L' L'' w'') : HPost w v L L'' w'' :=
  ⟨hs.rep, h.keeps.trans (hs.keeps.mono (fun b _ hb => h.sub b hb)), hs.len.trans h.len, fun b hb => h.sub b (hs.sub b hb)⟩

theorem HPost.cell {w w' : World} {v : Value} {L L' : List Ent} (h : HPost w v L L' w') {Q : Nat} {o : Nat} {x : Value} (hQ : w.cell? ⟨Q, o, none⟩ = some x) (nQ : ¬ hfoot v L Q) : w'.cell? ⟨Q, o, none⟩ = some x := h.keeps.cell hQ nQ

set_option maxRecDepth 100000 in
set_option maxHeartbeats 1000000 in
theorem up_any (w : World) (Q : Nat) (v : Value) (L : List Ent) (h : HRep w v L) (hQ : w.cell? ⟨Q, 0, none⟩ = some v) (nQ : ¬ hfoot v L Q) (j : Nat) (hj : j < L.length) :
    Calls Tryz.prog 99 #[.iface 123 (.pointer (some ⟨Q, 0, none⟩)), .int .i64 (j : Int)] w fun e w' => e = .returned (.tuple #[]) ∧ HPost w v L (upL L j) w' := by
  have hsm := h.small
  go_enter Tryz.func99, Tryz.ntmps99
  go_wp2_with fail
  go_loopw [1] (fun x wr => ∃ (k : Nat) (Lc : List Ent), x = .int .i64 (k : Int) ∧ k < Lc.length ∧ upL Lc k = upL L j ∧ HPost w v L Lc wr) (fun x _ => (intOf x).toNat)
  case atStart => exact ⟨j, L, rfl, hj, rfl, HPost.refl h⟩
  case round =>
    obtain ⟨k, Lc, rfl, hk, hup, hP⟩ := hrel
    have hk' : Lc.length ≤ 1000000 := hP.rep.small
    have HU := Lib.hid hup; clear hup
    by_cases k0 : k = 0
    · subst k0
      have HP := Lib.hid hP; clear hP h
      go_wp2_with fail
      go_end0
      refine ⟨rfl, ?_⟩
      have := HU.out
      rw [upL, if_pos rfl] at this
      rw [← this]; exact HP.out
    · have e1 : ((k : Int) - 1) / 2 = (((k - 1) / 2 : Nat) : Int) := by omega
      have hup' : upL Lc k = if lessAt Lc k ((k - 1) / 2) then upL (swp Lc ((k - 1) / 2) k) ((k - 1) / 2) else Lc := by rw [upL, if_neg k0]
      generalize (k - 1) / 2 = i at *
      have hik : i < k := by omega
      have hne : (((i : Nat) : Int) == (k : Int)) = false := by simp; omega
      obtain ⟨ek, hek⟩ : ∃ e, Lc[k]? = some e := ⟨_, List.getElem?_eq_getElem hk⟩
      obtain ⟨ei, hei⟩ : ∃ e, Lc[i]? = some e := ⟨_, List.getElem?_eq_getElem (by omega)⟩
      rw [lessAt_eq hek hei] at hup'
      have hq : ∀ n, (wr.drewN n).cell? ⟨Q, 0, none⟩ = some v := fun n => hP.cell hQ nQ
      have mL := method_Less (hP.cell hQ nQ)
      have mS := fun n => method_Swap (hq n)
      have HE := Lib.hid hek
      have HI := Lib.hid hei
      have HUP := Lib.hid hup'
      have HP := Lib.hid hP
      have HQ := Lib.hid hQ
      clear hek hei hup' hP hq hQ h nQ
      cases hb : lessE ek ei
      · have HB := Lib.hid hb; clear hb
        go_wp2_with (first | (go_at_call 192; refine (less_any _ v Lc HP.out.rep k i ek ei HE.out HI.out).mono ?_; rintro e w' ⟨he, n, rfl⟩; rw [HB.out] at he; subst he))
        go_end0
        refine ⟨rfl, ?_⟩
        have x := HUP.out
        rw [HB.out, HU.out] at x
        rw [x]; exact HP.out.drewN n
      · have HB := Lib.hid hb; clear hb
        go_wp2_with (first | (go_at_call 192; refine (less_any _ v Lc HP.out.rep k i ek ei HE.out HI.out).mono ?_; rintro e w' ⟨he, n, rfl⟩; rw [HB.out] at he; subst he) | (go_at_call 193; refine (swap_ne _ v Lc (HP.out.rep.drewN _) i k ei ek HI.out HE.out (by omega)).mono ?_; rintro e w' ⟨rfl, hS⟩))
        go_roundw
        case rel =>
          refine ⟨i, _, by go_num, ?_, ?_, (HP.out.drewN _).swap hS⟩
          · rw [length_swp]; omega
          · have x := HUP.out
            rw [HB.out, HU.out] at x
            exact x.symm
        case measure => simp [intOf]; omega

theorem less_any' (w : World) (v : Value) (L : List Ent) (h : HRep w v L) (x y : Int) (i k : Nat) (ei ek : Ent) (hi : L[i]? = some ei) (hk : L[k]? = some ek) (b : Bool) (hb : lessE ei ek = b) (hx : x = (i : Int)) (hy : y = (k : Int)) :
    Calls Tryz.prog 192 #[v, .int .i64 x, .int .i64 y] w fun e w' => e = .returned (.bool b) ∧ ∃ n, w' = w.drewN n := by
  subst hx hy hb; exact less_any w v L h i k ei ek hi hk

theorem swap_ne' (w : World) (v : Value) (L : List Ent) (h : HRep w v L) (x y : Int) (i k : Nat) (ei ek : Ent) (hi : L[i]? = some ei) (hk : L[k]? = some ek) (hne : i ≠ k) (hx : x = (i : Int)) (hy : y = (k : Int)) :
    Calls Tryz.prog 193 #[v, .int .i64 x, .int .i64 y] w fun e w' => e = .returned (.tuple #[]) ∧ SwapPost w v L i k w' := by
  subst hx hy; exact swap_ne w v L h i k ei ek hi hk hne

def downL (L : List Ent) (n i : Nat) : List Ent × Nat :=
  if n ≤ 2 * i + 1 then (L, i) else
  let j := if 2 * i + 2 < n && lessAt L (2 * i + 2) (2 * i + 1) then 2 * i + 2 else 2 * i + 1
  if lessAt L j i then downL (swp L i j) n j else (L, i)
termination_by n - i
decreasing_by split <;> omega

theorem downL_stop {L : List Ent} {n i : Nat} (h : n ≤ 2 * i + 1) : downL L n i = (L, i) := by rw [downL, if_pos h]
theorem downL_go {L : List Ent} {n i j : Nat} (h : ¬ n ≤ 2 * i + 1) (hj : (if 2 * i + 2 < n && lessAt L (2 * i + 2) (2 * i + 1) then 2 * i + 2 else 2 * i + 1) = j) :
    downL L n i = if lessAt L j i then downL (swp L i j) n j else (L, i) := by
  rw [downL, if_neg h]; simp only [hj]

theorem ret_bool {a b : Bool} (h : a = b) : Ending.returned (.bool a) = .returned (.bool b) := by rw [h]


set_option maxRecDepth 100000 in
set_option maxHeartbeats 4000000 in
theorem down_any (w : World) (Q : Nat) (v : Value) (L : List Ent) (h : HRep w v L) (hQ : w.cell? ⟨Q, 0, none⟩ = some v) (nQ : ¬ hfoot v L Q) (i0 n : Nat) (hn : n ≤ L.length) (hi0 : i0 ≤ L.length) :
    Calls Tryz.prog 98 #[.iface 123 (.pointer (some ⟨Q, 0, none⟩)), .int .i64 (i0 : Int), .int .i64 (n : Int)] w fun e w' => e = .returned (.bool (decide (i0 < (downL L n i0).2))) ∧ HPost w v L (downL L n i0).1 w' := by
  have hsm := h.small
  have hnn : n ≤ 1000000 := by omega
  have hii : i0 ≤ 1000000 := by omega
  go_enter Tryz.func98, Tryz.ntmps98
  go_wp2_with fail
  go_loopw [7] (fun x wr => ∃ (i : Nat) (Lc : List Ent), x = .int .i64 (i : Int) ∧ i ≤ 1000000 ∧ downL Lc n i = downL L n i0 ∧ HPost w v L Lc wr) (fun x _ => n - (intOf x).toNat)
  case atStart => exact ⟨i0, L, rfl, hii, rfl, HPost.refl h⟩
  case round =>
    obtain ⟨i, Lc, rfl, hi, hdn, hP⟩ := hrel
    have hk' : Lc.length ≤ 1000000 := hP.rep.small
    have hlen : n ≤ Lc.length := by rw [hP.len]; exact hn
    have HU := Lib.hid hdn; clear hdn
    by_cases hst : n ≤ 2 * i + 1
    · have HP := Lib.hid hP; clear hP h
      have x := downL_stop (L := Lc) hst
      rw [HU.out] at x
      have HX := Lib.hid x; clear x
      go_wp2_with fail
      go_ret
      exact ⟨ret_bool (by rw [HX.out]), by rw [HX.out]; exact HP.out⟩
    · obtain ⟨ei, hei⟩ : ∃ e, Lc[i]? = some e := ⟨_, List.getElem?_eq_getElem (by omega)⟩
      obtain ⟨e1, he1⟩ : ∃ e, Lc[2 * i + 1]? = some e := ⟨_, List.getElem?_eq_getElem (by omega)⟩
      have hst' : 2 * i + 1 < n := by omega
      have hq : ∀ n, (wr.drewN n).cell? ⟨Q, 0, none⟩ = some v := fun n => hP.cell hQ nQ
      have mL := fun n => method_Less (hq n)
      have mL0 := method_Less (hP.cell hQ nQ)
      have mS := fun n => method_Swap (hq n)
      have HEI := Lib.hid hei
      have HE1 := Lib.hid he1
      have HP := Lib.hid hP
      by_cases h2 : 2 * i + 2 < n
      · obtain ⟨e2, he2⟩ : ∃ e, Lc[2 * i + 2]? = some e := ⟨_, List.getElem?_eq_getElem (by omega)⟩
        have HE2 := Lib.hid he2
        cases hb : lessE e2 e1
        · have hj : (if 2 * i + 2 < n && lessAt Lc (2 * i + 2) (2 * i + 1) then 2 * i + 2 else 2 * i + 1) = 2 * i + 1 := by simp [lessAt_eq he2 he1, hb]
          have HG := Lib.hid (downL_go hst hj)
          rw [lessAt_eq he1 hei, HU.out] at HG
          have HB := Lib.hid hb
          cases hc : lessE e1 ei
          · clear hei he1 hP hq hQ h nQ hb he2 hj
            have HC := Lib.hid hc; clear hc
            rw [HC.out] at HG
            go_wp2_with fail
            refine (less_any' _ v Lc HP.out.rep _ _ _ _ e2 e1 HE2.out HE1.out _ HB.out (by omega) (by omega)).mono ?_; rintro e w' ⟨rfl, n1, rfl⟩
            go_wp2_with fail
            refine (less_any' _ v Lc (HP.out.rep.drewN _) _ _ _ _ e1 ei HE1.out HEI.out _ HC.out (by omega) (by omega)).mono ?_; rintro e w' ⟨rfl, n2, rfl⟩
            go_wp2_with fail
            go_ret
            have hx := HG.out; simp only [Bool.false_eq_true, if_false] at hx
            exact ⟨ret_bool (by rw [hx]), by rw [hx]; exact HP.out.drewN _⟩
          · clear hei he1 hP hq hQ h nQ hb he2 hj
            have HC := Lib.hid hc; clear hc
            rw [HC.out] at HG
            go_wp2_with fail
            refine (less_any' _ v Lc HP.out.rep _ _ _ _ e2 e1 HE2.out HE1.out _ HB.out (by omega) (by omega)).mono ?_; rintro e w' ⟨rfl, n1, rfl⟩
            go_wp2_with fail
            refine (less_any' _ v Lc (HP.out.rep.drewN _) _ _ _ _ e1 ei HE1.out HEI.out _ HC.out (by omega) (by omega)).mono ?_; rintro e w' ⟨rfl, n2, rfl⟩
            go_wp2_with fail
            refine (swap_ne' _ v Lc (HP.out.rep.drewN _) _ _ i (2 * i + 1) ei e1 HEI.out HE1.out (by omega) (by omega) (by omega)).mono ?_; rintro e w' ⟨rfl, hS⟩
            go_wp2_with fail
            go_roundw
            case rel =>
              have hx := HG.out; simp only [if_true] at hx
              exact ⟨2 * i + 1, _, by go_num, by omega, hx.symm, (HP.out.drewN _).swap hS⟩
            case measure => simp [intOf]; omega
        · have hj : (if 2 * i + 2 < n && lessAt Lc (2 * i + 2) (2 * i + 1) then 2 * i + 2 else 2 * i + 1) = 2 * i + 2 := by simp [lessAt_eq he2 he1, hb, h2]
          have HG := Lib.hid (downL_go hst hj)
          rw [lessAt_eq he2 hei, HU.out] at HG
          have HB := Lib.hid hb
          cases hc : lessE e2 ei
          · clear hei he1 hP hq hQ h nQ hb he2 hj
            have HC := Lib.hid hc; clear hc
            rw [HC.out] at HG
            go_wp2_with fail
            refine (less_any' _ v Lc HP.out.rep _ _ _ _ e2 e1 HE2.out HE1.out _ HB.out (by omega) (by omega)).mono ?_; rintro e w' ⟨rfl, n1, rfl⟩
            go_wp2_with fail
            refine (less_any' _ v Lc (HP.out.rep.drewN _) _ _ _ _ e2 ei HE2.out HEI.out _ HC.out (by omega) (by omega)).mono ?_; rintro e w' ⟨rfl, n2, rfl⟩
            go_wp2_with fail
            go_ret
            have hx := HG.out; simp only [Bool.false_eq_true, if_false] at hx
            exact ⟨ret_bool (by rw [hx]), by rw [hx]; exact HP.out.drewN _⟩
          · clear hei he1 hP hq hQ h nQ hb he2 hj
            have HC := Lib.hid hc; clear hc
            rw [HC.out] at HG
            go_wp2_with fail
            refine (less_any' _ v Lc HP.out.rep _ _ _ _ e2 e1 HE2.out HE1.out _ HB.out (by omega) (by omega)).mono ?_; rintro e w' ⟨rfl, n1, rfl⟩
            go_wp2_with fail
            refine (less_any' _ v Lc (HP.out.rep.drewN _) _ _ _ _ e2 ei HE2.out HEI.out _ HC.out (by omega) (by omega)).mono ?_; rintro e w' ⟨rfl, n2, rfl⟩
            go_wp2_with fail
            refine (swap_ne' _ v Lc (HP.out.rep.drewN _) _ _ i (2 * i + 2) ei e2 HEI.out HE2.out (by omega) (by omega) (by omega)).mono ?_; rintro e w' ⟨rfl, hS⟩
            go_wp2_with fail
            go_roundw
            case rel =>
              have hx := HG.out; simp only [if_true] at hx
              exact ⟨2 * i + 2, _, by go_num, by omega, hx.symm, (HP.out.drewN _).swap hS⟩
            case measure => simp [intOf]; omega
      · have hj : (if 2 * i + 2 < n && lessAt Lc (2 * i + 2) (2 * i + 1) then 2 * i + 2 else 2 * i + 1) = 2 * i + 1 := by simp [h2]
        have HG := Lib.hid (downL_go hst hj)
        rw [lessAt_eq he1 hei, HU.out] at HG
        cases hc : lessE e1 ei
        · clear hei he1 hP hq hQ h nQ hj
          have HC := Lib.hid hc; clear hc
          rw [HC.out] at HG
          go_wp2_with fail
          refine (less_any' _ v Lc HP.out.rep _ _ _ _ e1 ei HE1.out HEI.out _ HC.out (by omega) (by omega)).mono ?_; rintro e w' ⟨rfl, n2, rfl⟩
          go_wp2_with fail
          go_ret
          have hx := HG.out; simp only [Bool.false_eq_true, if_false] at hx
          exact ⟨ret_bool (by rw [hx]), by rw [hx]; exact HP.out.drewN _⟩
        · clear hei he1 hP hq hQ h nQ hj
          have HC := Lib.hid hc; clear hc
          rw [HC.out] at HG
          go_wp2_with fail
          refine (less_any' _ v Lc HP.out.rep _ _ _ _ e1 ei HE1.out HEI.out _ HC.out (by omega) (by omega)).mono ?_; rintro e w' ⟨rfl, n2, rfl⟩
          go_wp2_with fail
          refine (swap_ne' _ v Lc (HP.out.rep.drewN _) _ _ i (2 * i + 1) ei e1 HEI.out HE1.out (by omega) (by omega) (by omega)).mono ?_; rintro e w' ⟨rfl, hS⟩
          go_wp2_with fail
          go_roundw
          case rel =>
            have hx := HG.out; simp only [if_true] at hx
            exact ⟨2 * i + 1, _, by go_num, by omega, hx.symm, (HP.out.drewN _).swap hS⟩
          case measure => simp [intOf]; omega

end Go.Proofs.YtjcgkmodmjckjaaGreat.V

namespace Go.Proofs.YtjcgkmodmjckjaaGreat.V
open Go.RowKit

/-- Q is the queue's struct: the slice v, the map m, the clock t. -/
def QBlk (w : World) (Q : Nat) (v m : Value) (t : Int) : Prop := w.heap[Q]? = some (.cells #[v, m, .int .i64 t] 117 (0, 0))

theorem QBlk.c0 {w : World} {Q : Nat} {v m : Value} {t : Int} (h : QBlk w Q v m t) : w.cell? ⟨Q, 0, none⟩ = some v := by rw [cell_of_blk h]; rfl
theorem QBlk.c1 {w : World} {Q : Nat} {v m : Value} {t : Int} (h : QBlk w Q v m t) : w.cell? ⟨Q, 1, none⟩ = some m := by rw [cell_of_blk h]; rfl
theorem QBlk.c2 {w : World} {Q : Nat} {v m : Value} {t : Int} (h : QBlk w Q v m t) : w.cell? ⟨Q, 2, none⟩ = some (.int .i64 t) := by rw [cell_of_blk h]; rfl

theorem QBlk.nfoot {w : World} {Q : Nat} {v m : Value} {t : Int} (h : QBlk w Q v m t) {L : List Ent} (hr : HRep w v L) : ¬ hfoot v L Q := by
  rintro (hb | ⟨e, he, rfl⟩)
  · rcases hr.row.2 with ⟨hv, _⟩ | ⟨g, cap, cur, hv, _, hg, _⟩
    · rw [hv] at hb; simp [Value.ownBlock] at hb
    · rw [hv] at hb; simp [Value.ownBlock] at hb
      subst hb
      unfold QBlk at h; rw [hg] at h; simp at h
  · obtain ⟨j, hj⟩ := List.mem_iff_getElem?.1 he
    have := hr.ent j e hj
    unfold QBlk at h; rw [this] at h; simp at h

theorem HPost.qblk {w w' : World} {v m : Value} {L L' : List Ent} (h : HPost w v L L' w') {Q : Nat} {t : Int} (hQ : QBlk w Q v m t) (hr : HRep w v L) : QBlk w' Q v m t := h.keeps.heap hQ (hQ.nfoot hr)

theorem HRep.isSlice {w : World} {v : Value} {L : List Ent} (h : HRep w v L) : ∃ ao cap, v = .slice ao L.length cap := by
  rcases h.row.2 with ⟨hv, h0⟩ | ⟨g, cap, cur, hv, _⟩
  · exact ⟨none, 0, by rw [hv, h0]⟩
  · exact ⟨_, _, hv⟩

set_option maxRecDepth 100000 in
set_option maxHeartbeats 400000 in
theorem len_any (w : World) (v : Value) (L : List Ent) (h : HRep w v L) :
    Calls Tryz.prog 191 #[v] w fun e w' => e = .returned (.int .i64 (L.length : Int)) ∧ w = w' := by
  obtain ⟨ao, cap, rfl⟩ := h.isSlice
  clear h
  go_enter Tryz.func191, Tryz.ntmps191
  go_wp2
  go_ret
  exact ⟨rfl, rfl⟩

def fixL (L : List Ent) (i : Nat) : List Ent := if i < (downL L L.length i).2 then (downL L L.length i).1 else upL (downL L L.length i).1 i

set_option maxRecDepth 100000 in
set_option maxHeartbeats 1000000 in
theorem fix_any (w : World) (Q : Nat) (v m : Value) (t : Int) (L : List Ent) (h : HRep w v L) (hQ : QBlk w Q v m t) (x : Int) (i : Nat) (hi : i < L.length) (hx : x = (i : Int)) :
    Calls Tryz.prog 73 #[.iface 123 (.pointer (some ⟨Q, 0, none⟩)), .int .i64 x] w fun e w' => e = .returned (.tuple #[]) ∧ HPost w v L (fixL L i) w' := by
  subst hx
  have hsm := h.small
  have mN := method_Len hQ.c0
  have H0 := Lib.hid h
  have HQ := Lib.hid hQ
  have HF : Hid (fixL L i = if i < (downL L L.length i).2 then (downL L L.length i).1 else upL (downL L L.length i).1 i) := rfl
  clear h hQ
  by_cases hd : i < (downL L L.length i).2
  · have HD := hid_true hd
    rw [if_pos hd] at HF
    clear hd
    go_enter Tryz.func73, Tryz.ntmps73
    go_wp2_with fail
    refine (len_any _ v L H0.out).mono ?_; rintro e w' ⟨rfl, rfl⟩
    go_wp2_with fail
    refine (down_any _ Q v L H0.out HQ.out.c0 (HQ.out.nfoot H0.out) i L.length (Nat.le_refl _) (by omega)).mono ?_; rintro e w' ⟨he, hP⟩; rw [HD.out] at he; subst he
    go_wp2_with fail
    go_end0
    exact ⟨rfl, by rw [HF.out]; exact hP⟩
  · have HD := hid_false hd
    rw [if_neg hd] at HF
    clear hd
    go_enter Tryz.func73, Tryz.ntmps73
    go_wp2_with fail
    refine (len_any _ v L H0.out).mono ?_; rintro e w' ⟨rfl, rfl⟩
    go_wp2_with fail
    refine (down_any _ Q v L H0.out HQ.out.c0 (HQ.out.nfoot H0.out) i L.length (Nat.le_refl _) (by omega)).mono ?_; rintro e w' ⟨he, hP⟩; rw [HD.out] at he; subst he
    go_wp2_with fail
    refine (up_any _ Q v _ hP.rep (hP.qblk HQ.out H0.out).c0 ((hP.qblk HQ.out H0.out).nfoot hP.rep) i (by rw [hP.len]; exact hi)).mono ?_; rintro e w'' ⟨rfl, hP2⟩
    go_wp2_with fail
    go_end0
    exact ⟨rfl, by rw [HF.out]; exact hP.trans hP2⟩

/-! ### the slice's own Pop -/
structure PopPost (w : World) (Q : Nat) (v m : Value) (t : Int) (L : List Ent) (w' : World) (v' : Value) : Prop where
  rep : HRep w' v' L
  q : QBlk w' Q v' m t
  keeps : Keeps (fun b => b = Q) w w'
  own : v'.ownBlock = v.ownBlock

theorem HRep.pop {w : World} {H cap : Nat} {L : List Ent} {e : Ent} {n : Nat} (h : HRep w (.slice (some ⟨H, 0, none⟩) n cap) (L ++ [e])) : HRep w (.slice (some ⟨H, 0, none⟩) L.length cap) L := by
  refine ⟨?_, ?_, ?_⟩
  · rcases h.row.2 with ⟨hv, _⟩ | ⟨g, cap', cur, hv, hb, hg, hn, hm, hs, ht⟩
    · simp at hv
    · simp only [Value.slice.injEq, Option.some.injEq, Addr.mk.injEq, and_true] at hv
      obtain ⟨rfl, _, rfl⟩ := hv
      refine ⟨by simp, .inr ⟨H, cap, cur, rfl, hb, hg, ?_, hm, hs, ?_⟩⟩
      · simp at hn; omega
      · have : (cur.toList.take ((L ++ [e]).length * 1)).take (L.length * 1) = ((L ++ [e]).map Ent.ptr).take (L.length * 1) := by rw [ht]
        rw [List.take_take] at this
        rw [show min (L.length * 1) ((L ++ [e]).length * 1) = L.length * 1 by simp] at this
        rw [this]; simp
  · intro i x hi
    have hl : i < L.length := (List.getElem?_eq_some_iff.1 hi).1
    exact h.ent i x (by rw [List.getElem?_append_left hl]; exact hi)
  · have := h.small; simp at this; omega

theorem pop_post {w : World} {Q H cap : Nat} {m : Value} {t : Int} {L : List Ent} {e : Ent} {n : Nat} (h : HRep w (.slice (some ⟨H, 0, none⟩) n cap) (L ++ [e])) (hQ : QBlk w Q (.slice (some ⟨H, 0, none⟩) n cap) m t) (d : Nat) :
    PopPost w Q (.slice (some ⟨H, 0, none⟩) n cap) m t L ((w.setCell ⟨Q, 0, none⟩ (.slice (some ⟨H, 0, none⟩) L.length cap)).drewN d) (.slice (some ⟨H, 0, none⟩) L.length cap) := by
  have nQ := hQ.nfoot h
  refine ⟨HRep.drewN (h.pop.keeps (S := fun b => b = Q) ((Keeps.refl (fun b => b = Q) w).setCell (p := ⟨Q, 0, none⟩) (.inl rfl) _) ?_) _, ?_, ((Keeps.refl (fun b => b = Q) w).setCell (p := ⟨Q, 0, none⟩) (.inl rfl) _).drewN _, rfl⟩
  · rintro b hb rfl
    apply nQ
    rcases hb with hb | ⟨x, hx, rfl⟩
    · exact .inl hb
    · exact .inr ⟨x, by simp [hx], rfl⟩
  · unfold QBlk
    rw [blk_drewN, blk_set_same hQ]; rfl

set_option maxRecDepth 100000 in
set_option maxHeartbeats 1000000 in
theorem opop_any (w : World) (Q : Nat) (v m : Value) (t : Int) (L : List Ent) (e0 : Ent) (h : HRep w v (L ++ [e0])) (hQ : QBlk w Q v m t) :
    Calls Tryz.prog 194 #[.pointer (some ⟨Q, 0, none⟩)] w fun e w' => e = .returned (.iface 118 (.pointer (some ⟨e0.blk, 0, none⟩))) ∧ ∃ v', PopPost w Q v m t L w' v' := by
  have hsm := h.small
  obtain ⟨H, cap, cur, hv, hH, hcs, hcl, -⟩ := h.form (by simp)
  have hlen : (L ++ [e0]).length = L.length + 1 := by simp
  have hlast := h.cell hv (i := L.length) (e := e0) (by simp)
  rw [hlen] at hv hsm hcl
  subst hv
  have c0 := hQ.c0
  have f0 : w.frozen? ⟨Q, 0, none⟩ = false := frozen_of_blk hQ
  have HP := Lib.hid (fun d => pop_post h hQ d)
  have e1 : ((L.length + 1 : Nat) : Int) - 1 = (L.length : Int) := by omega
  clear h hQ hH hcs hlen
  go_enter Tryz.func194, Tryz.ntmps194
  go_wp2
  go_ret
  exact ⟨rfl, _, HP.out 0⟩

/-- What heap.Pop leaves: the list behind the swap and the sinking, its last element. -/
def popL (L : List Ent) : List Ent := (downL (swp L 0 (L.length - 1)) (L.length - 1) 0).1

theorem length_downL (L : List Ent) (n i : Nat) : (downL L n i).1.length = L.length := by
  induction hm : n - i using Nat.strongRecOn generalizing L i with
  | _ m ih =>
    by_cases h : n ≤ 2 * i + 1
    · rw [downL_stop h]
    · rw [downL_go h rfl]
      generalize hj : (if (decide (2 * i + 2 < n) && lessAt L (2 * i + 2) (2 * i + 1)) = true then 2 * i + 2 else 2 * i + 1) = j
      have hij : i < j := by subst hj; split <;> omega
      split
      · rw [ih (n - j) (by omega) _ _ rfl, length_swp]
      · rfl

theorem length_popL (L : List Ent) : (popL L).length = L.length := by unfold popL; rw [length_downL, length_swp]

structure TookPost (w : World) (Q : Nat) (v m : Value) (t : Int) (L R : List Ent) (e0 : Ent) (w' : World) (v' : Value) : Prop where
  rep : HRep w' v' R
  q : QBlk w' Q v' m t
  ent0 : ∃ x, w'.heap[e0.blk]? = some (.cells #[.int .i64 e0.item, .int .i64 e0.key, .int .i64 e0.time, x] 121 (0, 0))
  keeps : Keeps (fun b => b = Q ∨ hfoot v L b) w w'
  sub : ∀ b, hfoot v' R b → hfoot v L b

theorem swap_any' (w : World) (v : Value) (L : List Ent) (h : HRep w v L) (x y : Int) (i k : Nat) (hi : i < L.length) (hk : k < L.length) (hx : x = (i : Int)) (hy : y = (k : Int)) :
    Calls Tryz.prog 193 #[v, .int .i64 x, .int .i64 y] w fun e w' => e = .returned (.tuple #[]) ∧ SwapPost w v L i k w' := by
  subst hx hy
  by_cases e : i = k
  · subst e; exact swap_eq w v L h i _ (List.getElem?_eq_getElem hi)
  · exact swap_ne w v L h i k _ _ (List.getElem?_eq_getElem hi) (List.getElem?_eq_getElem hk) e

theorem took_post {w w1 w2 : World} {Q : Nat} {v m : Value} {t : Int} {L R : List Ent} {e0 : Ent} {v' : Value} (hr : HRep w v L) (hQ : QBlk w Q v m t) (hP : HPost w v L (R ++ [e0]) w1) (hO : PopPost w1 Q v m t R w2 v') : TookPost w Q v m t L R e0 w2 v' := by
  have hE := hP.rep.ent R.length e0 (by simp)
  have nQ := hQ.nfoot hr
  have hin : hfoot v L e0.blk := hP.sub _ (.inr ⟨e0, by simp, rfl⟩)
  refine ⟨hO.rep, hO.q, ⟨_, hO.keeps.heap hE ?_⟩, ?_, ?_⟩
  · rintro rfl; exact nQ hin
  · exact (hP.keeps.mono (fun b _ hb => .inr hb)).trans (hO.keeps.mono (fun b _ hb => .inl hb))
  · intro b hb
    apply hP.sub
    rcases hb with hb | ⟨x, hx, rfl⟩
    · exact .inl (by rw [← hO.own]; exact hb)
    · exact .inr ⟨x, by simp [hx], rfl⟩

set_option maxRecDepth 100000 in
set_option maxHeartbeats 1000000 in
theorem hpop_any (w : World) (Q : Nat) (v m : Value) (t : Int) (L : List Ent) (h : HRep w v L) (hQ : QBlk w Q v m t) (R : List Ent) (e0 : Ent) (hR : popL L = R ++ [e0]) :
    Calls Tryz.prog 75 #[.iface 123 (.pointer (some ⟨Q, 0, none⟩))] w fun e w' => e = .returned (.iface 118 (.pointer (some ⟨e0.blk, 0, none⟩))) ∧ ∃ v', TookPost w Q v m t L R e0 w' v' := by
  have hsm := h.small
  have hlen : L.length = R.length + 1 := by rw [← length_popL L, hR]; simp
  have mN := method_Len hQ.c0
  have mS := method_Swap hQ.c0
  have H0 := Lib.hid h
  have HQ := Lib.hid hQ
  have HR := Lib.hid hR
  have HL := Lib.hid hlen
  have hr1 : R.length + 1 ≤ 1000000 := by omega
  clear h hQ hR hlen hsm
  have mP := fun w => method_Pop_raw ⟨Q, 0, none⟩ w
  go_enter Tryz.func75, Tryz.ntmps75
  go_wp2_with fail
  refine (len_any _ v L H0.out).mono ?_; rintro e w' ⟨he, rfl⟩; rw [HL.out] at he; subst he
  go_wp2_with fail
  refine (swap_any' _ v L H0.out _ _ 0 R.length (by have := HL.out; omega) (by have := HL.out; omega) (by omega) (by omega)).mono ?_; rintro e w1 ⟨rfl, hS⟩
  have hP1 := (HPost.refl H0.out).swap hS
  go_wp2_with fail
  refine (down_any _ Q v _ hP1.rep (hP1.qblk HQ.out H0.out).c0 ((hP1.qblk HQ.out H0.out).nfoot hP1.rep) 0 R.length (by have := hP1.len; have := HL.out; omega) (by omega)).mono ?_; rintro e w2 ⟨rfl, hP2⟩
  have hP3 := hP1.trans hP2
  have e4 : (downL (swp L 0 R.length) R.length 0).1 = R ++ [e0] := by
    have := HR.out; unfold popL at this; rw [HL.out] at this; exact this
  rw [e4] at hP3
  have HP3 := Lib.hid hP3
  clear hP1 hP2 hP3 hS e4
  go_wp2_with fail
  refine (opop_any _ Q v m t R e0 HP3.out.rep (HP3.out.qblk HQ.out H0.out)).mono ?_; rintro e w3 ⟨rfl, v', hO⟩
  have hT := Lib.hid (took_post H0.out HQ.out HP3.out hO)
  clear hO
  go_wp2_with fail
  go_ret
  exact ⟨rfl, v', hT.out⟩

end Go.Proofs.YtjcgkmodmjckjaaGreat.V

namespace Go.Proofs.YtjcgkmodmjckjaaGreat.V
open Go.RowKit

theorem Tryz.infoE : (Tryz.prog.info? 118).map (fun i => (i.zero, i.size, i.bytes)) = some (some (.pointer none), 1, 8) := by kernel_rfl

theorem ta_entry (a : Addr) (w : World) : (Instr.typeAssert (.iface 118 (.pointer (some a))) 20 118 false).run Tryz.prog w = .ok (.pointer (some a)) w := by kernel_rfl

structure PushPost (w : World) (Q : Nat) (v m : Value) (t : Int) (L L' : List Ent) (e0 : Ent) (w' : World) (v' : Value) : Prop where
  rep : HRep w' v' L'
  q : QBlk w' Q v' m t
  keeps : Keeps (fun b => b = Q ∨ hfoot v L b ∨ b = e0.blk) w w'
  sub : ∀ b, hfoot v' L' b → hfoot v L b ∨ b = e0.blk ∨ w.heap.size ≤ b

theorem push_q {w w1 : World} {Q : Nat} {v m : Value} {t : Int} {L : List Ent} {e0 : Ent} (h : HRep w v L) (hQ : QBlk w Q v m t) (nQE : ¬ Q = e0.blk) {o : Obj}
    (hgrow : ((w.setCell ⟨e0.blk, 3, none⟩ (.int .i64 (L.length : Int))).alloc o).grownBy w1 v.ownBlock) : QBlk w1 Q v m t := by
  have lQ := lt_of_heap hQ
  have nQ := hQ.nfoot h
  unfold QBlk
  rw [hgrow.block Q (by simp; omega) (fun e => nQ (.inl e.symm)), Below.heap_alloc _ _ _ (by simpa using lQ), blk_set_ne nQE]
  exact hQ

theorem push_post {w w1 : World} {Q : Nat} {v m : Value} {t : Int} {L : List Ent} {e0 : Ent} {x : Value} {g cap : Nat} (h : HRep w v L) (hQ : QBlk w Q v m t)
    (he : w.heap[e0.blk]? = some (.cells #[.int .i64 e0.item, .int .i64 e0.key, .int .i64 e0.time, x] 121 (0, 0))) (hn : ¬ hfoot v L e0.blk) (hs : L.length + 1 ≤ 1000000)
    (hown : w1.ownsRow 0 118 1 (.slice (some ⟨g, 0, none⟩) (L.length + 1) cap) (L.length + 1) ((L.map Ent.ptr) ++ [e0.ptr]))
    (hgrow : ((w.setCell ⟨e0.blk, 3, none⟩ (.int .i64 (L.length : Int))).alloc (.cells #[e0.ptr] 118)).grownBy w1 v.ownBlock)
    (hat : v.ownBlock = some g ∨ g = w.heap.size + 1) :
    PushPost w Q v m t L (L ++ [e0]) e0 (w1.setCell ⟨Q, 0, none⟩ (.slice (some ⟨g, 0, none⟩) (L.length + 1) cap)) (.slice (some ⟨g, 0, none⟩) (L.length + 1) cap) := by
  have lQ := lt_of_heap hQ
  have lE := lt_of_heap he
  have nQ := hQ.nfoot h
  have nQE : Q ≠ e0.blk := by rintro rfl; unfold QBlk at hQ; rw [hQ] at he; simp at he
  have nQg : Q ≠ g := by
    rintro rfl
    rcases hat with hat | hat
    · exact nQ (.inl hat)
    · omega
  -- the world ahead of the append
  have k0 : Keeps (fun b => b = e0.blk) w ((w.setCell ⟨e0.blk, 3, none⟩ (.int .i64 (L.length : Int))).alloc (.cells #[e0.ptr] 118)) :=
    ((Keeps.refl (fun b => b = e0.blk) w).setCell (p := ⟨e0.blk, 3, none⟩) (.inl rfl) _).alloc _
  have k1 : Keeps (fun b => b = e0.blk ∨ v.ownBlock = some b) w w1 := (k0.mono (fun b _ hb => .inl hb)).grown hgrow (fun k hk => .inl (.inr hk))
  have k2 : Keeps (fun b => b = Q ∨ hfoot v L b ∨ b = e0.blk) w (w1.setCell ⟨Q, 0, none⟩ (.slice (some ⟨g, 0, none⟩) (L.length + 1) cap)) :=
    (k1.mono (fun b _ hb => by rcases hb with hb | hb; exact .inr (.inr hb); exact .inr (.inl (.inl hb)))).setCell (p := ⟨Q, 0, none⟩) (.inl (.inl rfl)) _
  have hE1 : w1.heap[e0.blk]? = some (.cells #[.int .i64 e0.item, .int .i64 e0.key, .int .i64 e0.time, .int .i64 (L.length : Int)] 121 (0, 0)) := by
    rw [hgrow.block e0.blk (by simp; omega) (fun e => hn (.inl e.symm)), Below.heap_alloc _ _ _ (by simpa using lE), blk_set_same he]; rfl
  refine ⟨⟨?_, ?_, ?_⟩, ?_, k2, ?_⟩
  · have := Keeps.ownsRow (S := fun b => b = Q) ((Keeps.refl (fun b => b = Q) w1).setCell (p := ⟨Q, 0, none⟩) (.inl rfl) (.slice (some ⟨g, 0, none⟩) (L.length + 1) cap)) hown (fun k hk => by
      simp [Value.ownBlock] at hk; subst hk; exact fun e => nQg e.symm)
    simpa using this
  · intro i e hi
    by_cases hl : i < L.length
    · rw [List.getElem?_append_left hl] at hi
      have hb := h.ent i e hi
      have hlt := lt_of_heap hb
      have hfe : hfoot v L e.blk := .inr ⟨e, List.mem_of_getElem? hi, rfl⟩
      have : w1.heap[e.blk]? = w.heap[e.blk]? := k1.block _ hlt (by
        rintro (hx | hx)
        · exact hn (hx ▸ hfe)
        · exact h.ne_row hi hx rfl)
      rw [blk_set_ne (fun hx => nQ (by rw [← hx]; exact hfe)), this]
      exact hb
    · have hlen : i < (L ++ [e0]).length := (List.getElem?_eq_some_iff.1 hi).1
      have hi' : i = L.length := by simp at hlen; omega
      subst hi'
      simp at hi
      subst hi
      rw [blk_set_ne (fun e => nQE e.symm)]
      exact hE1
  · simpa using hs
  · unfold QBlk
    have : w1.heap[Q]? = some (.cells #[v, m, .int .i64 t] 117 (0, 0)) := k1.heap hQ (by
      rintro (hx | hx)
      · exact nQE hx
      · exact nQ (.inl hx))
    rw [blk_set_same this]; rfl
  · rintro b (hb | ⟨e, he, rfl⟩)
    · simp [Value.ownBlock] at hb; subst hb
      rcases hat with hat | hat
      · exact .inl (.inl hat)
      · exact .inr (.inr (by omega))
    · rcases List.mem_append.1 he with he | he
      · exact .inl (.inr ⟨e, he, rfl⟩)
      · simp at he; subst he; exact .inr (.inl rfl)

set_option maxRecDepth 100000 in
set_option maxHeartbeats 1000000 in
theorem opush_any (w : World) (Q : Nat) (v m : Value) (t : Int) (L : List Ent) (e0 : Ent) (x : Value) (h : HRep w v L) (hQ : QBlk w Q v m t)
    (he : w.heap[e0.blk]? = some (.cells #[.int .i64 e0.item, .int .i64 e0.key, .int .i64 e0.time, x] 121 (0, 0))) (hn : ¬ hfoot v L e0.blk) (hs : L.length + 1 ≤ 1000000) :
    Calls Tryz.prog 195 #[.pointer (some ⟨Q, 0, none⟩), .iface 118 (.pointer (some ⟨e0.blk, 0, none⟩))] w fun e w' => e = .returned (.tuple #[]) ∧ ∃ v', PushPost w Q v m t L (L ++ [e0]) e0 w' v' := by
  obtain ⟨i0, hi0, hz0, hz1, hz2⟩ := info_parts Tryz.infoE
  have c0 := hQ.c0
  have f0 : w.frozen? ⟨Q, 0, none⟩ = false := frozen_of_blk hQ
  have c3 : w.cell? ⟨e0.blk, 3, none⟩ = some x := by rw [cell_of_blk he]; rfl
  have f3 : w.frozen? ⟨e0.blk, 3, none⟩ = false := frozen_of_blk he
  have nQE : ¬ Q = e0.blk := by rintro rfl; unfold QBlk at hQ; rw [hQ] at he; simp at he
  have nQE' : ¬ e0.blk = Q := fun e => nQE e.symm
  have lQ := lt_of_heap hQ
  have lE := lt_of_heap he
  have hrow := Keeps.ownsRow (S := fun b => b = e0.blk) ((Keeps.refl (fun b => b = e0.blk) w).setCell (p := ⟨e0.blk, 3, none⟩) (.inl rfl) (.int .i64 (L.length : Int))) h.row (fun k hk => by rintro rfl; exact hn (.inl hk))
  have hPP := fun w1 g cap => push_post (w1 := w1) (g := g) (cap := cap) h hQ he hn hs
  obtain ⟨ao, cap, rfl⟩ := h.isSlice
  have hrow' := Lib.hid (hrow.alloc (.cells #[e0.ptr] 118))
  have HPP := Lib.hid hPP
  have H0 := Lib.hid h
  have HQ := Lib.hid hQ
  clear h hQ he hn hrow hPP
  have hta := fun w => ta_entry ⟨e0.blk, 0, none⟩ w
  go_enter Tryz.func195, Tryz.ntmps195
  go_wp2_with (at_builtin; refine wpList_append_lies _ rfl _ _ _ rfl 0 118 i0 _ 1 8 Tryz.underlying115 hi0 hz0 hz1 hz2 rfl (by omega) _ L.length _ (by rfl) hrow'.out ⟨w.heap.size, 0, none⟩ 1 1 [e0.ptr] (by rfl) (by rfl) ?hnews ?hone (by omega) (by unfold maxLen; omega) (by omega) (by omega) (w.heap.size + 1) (by simp) ?_)
  case hnews => exact World.news_of_block (cs := #[e0.ptr]) (t := 118) (fr := (0, 0)) (by rw [← World.size_setCell (w := w) (a := ⟨e0.blk, 3, none⟩) (v := .int .i64 (L.length : Int))]; exact heap_alloc_new _ _)
  case hone => simp [Ent.ptr, Value.oneCell']
  intro g cap' w1 hown hgrow hat hlt
  have hq1 := push_q H0.out HQ.out nQE hgrow
  have c0' := hq1.c0
  have f0' : w1.frozen? ⟨Q, 0, none⟩ = false := frozen_of_blk hq1
  have HP := Lib.hid (HPP.out w1 g cap' hown hgrow hat)
  clear hown hgrow hat hq1
  go_wp2_with fail
  go_end0
  exact ⟨rfl, _, HP.out⟩

end Go.Proofs.YtjcgkmodmjckjaaGreat.V

namespace Go.Proofs.YtjcgkmodmjckjaaGreat.V
open Go.RowKit

def at' (L : List Ent) (i : Nat) : Ent := L.getD i ⟨0, 0, 0, 0⟩
theorem at_eq {L : List Ent} {i : Nat} {e : Ent} (h : L[i]? = some e) : at' L i = e := by simp [at', h]
theorem get_at {L : List Ent} {i : Nat} (h : i < L.length) : L[i]? = some (at' L i) := by simp [at', h]
theorem at_mem {L : List Ent} {i : Nat} (h : i < L.length) : at' L i ∈ L := List.mem_of_getElem? (get_at h)

def leE (a b : Ent) : Prop := lessE b a = false
theorem leE_iff (a b : Ent) : leE a b ↔ a.key < b.key ∨ (a.key = b.key ∧ a.time ≤ b.time) := by
  unfold leE lessE; simp; omega
theorem leE.refl (a : Ent) : leE a a := by rw [leE_iff]; right; exact ⟨rfl, Int.le_refl _⟩
theorem leE.trans {a b c : Ent} (h : leE a b) (k : leE b c) : leE a c := by rw [leE_iff] at *; omega
theorem leE_of_less {a b : Ent} (h : lessE a b = true) : leE a b := by
  rw [leE_iff]; unfold lessE at h; simp at h; omega

theorem lessAt_at {L : List Ent} {i k : Nat} (hi : i < L.length) (hk : k < L.length) : lessAt L i k = lessE (at' L i) (at' L k) := lessAt_eq (get_at hi) (get_at hk)

theorem at_swp {L : List Ent} {i k : Nat} (hi : i < L.length) (hk : k < L.length) (j : Nat) : at' (swp L i k) j = if j = k then at' L i else if j = i then at' L k else at' L j := by
  have := get_swp (get_at hi) (get_at hk) j
  simp only [at', List.getD, this]
  split
  · rfl
  · split <;> rfl

theorem perm_swp (L : List Ent) (i k : Nat) : (swp L i k).Perm L := by
  cases hi : L[i]? with
  | none => simp [swp, hi]
  | some a =>
    cases hk : L[k]? with
    | none => simp [swp, hi, hk]
    | some b =>
      have li : i < L.length := (List.getElem?_eq_some_iff.1 hi).1
      have lk : k < L.length := (List.getElem?_eq_some_iff.1 hk).1
      have ea := (List.getElem?_eq_some_iff.1 hi).2
      have eb := (List.getElem?_eq_some_iff.1 hk).2
      have hp := Array.swap_perm (xs := L.toArray) (i := i) (j := k) (by simpa using li) (by simpa using lk)
      have := Array.perm_iff_toList_perm.1 hp
      have e : (L.toArray.swap i k (by simpa using li) (by simpa using lk)).toList = swp L i k := by
        rw [swp_eq hi hk]
        simp [Array.swap, ea, eb]
      rw [e] at this
      simpa using this

theorem perm_upL (L : List Ent) (j : Nat) : (upL L j).Perm L := by
  induction j using Nat.strongRecOn generalizing L with
  | _ j ih =>
    rw [upL]
    split
    · exact List.Perm.refl _
    · split
      · exact (ih _ (by omega) _).trans (perm_swp _ _ _)
      · exact List.Perm.refl _

/-- What the sinking does, step by step. -/
theorem downL_ind {P : List Ent → Nat → List Ent × Nat → Prop} {n : Nat} (h1 : ∀ L i, n ≤ 2 * i + 1 → P L i (L, i))
    (h2 : ∀ L i j, ¬ n ≤ 2 * i + 1 → (if (decide (2 * i + 2 < n) && lessAt L (2 * i + 2) (2 * i + 1)) = true then 2 * i + 2 else 2 * i + 1) = j → lessAt L j i = false → P L i (L, i))
    (h3 : ∀ L i j, ¬ n ≤ 2 * i + 1 → (if (decide (2 * i + 2 < n) && lessAt L (2 * i + 2) (2 * i + 1)) = true then 2 * i + 2 else 2 * i + 1) = j → lessAt L j i = true → P (swp L i j) j (downL (swp L i j) n j) → P L i (downL (swp L i j) n j)) :
    ∀ L i, P L i (downL L n i) := by
  intro L i
  induction hm : n - i using Nat.strongRecOn generalizing L i with
  | _ m ih =>
    by_cases h : n ≤ 2 * i + 1
    · rw [downL_stop h]; exact h1 L i h
    · obtain ⟨j, hj⟩ : ∃ j, (if (decide (2 * i + 2 < n) && lessAt L (2 * i + 2) (2 * i + 1)) = true then 2 * i + 2 else 2 * i + 1) = j := ⟨_, rfl⟩
      rw [downL_go h hj]
      have hij : i < j := by subst hj; split <;> omega
      cases hc : lessAt L j i
      · simp only [Bool.false_eq_true, if_false]; exact h2 L i j h hj hc
      · simp only [if_true]; exact h3 L i j h hj hc (ih (n - j) (by omega) _ _ rfl)

theorem child_lt {L : List Ent} {n i j : Nat} (h : ¬ n ≤ 2 * i + 1) (hj : (if (decide (2 * i + 2 < n) && lessAt L (2 * i + 2) (2 * i + 1)) = true then 2 * i + 2 else 2 * i + 1) = j) : j < n ∧ i < j ∧ (j - 1) / 2 = i := by
  subst hj
  split
  · rename_i hc; simp at hc; omega
  · omega

theorem perm_downL (L : List Ent) (n i : Nat) : (downL L n i).1.Perm L :=
  downL_ind (P := fun L _ r => r.1.Perm L) (fun _ _ _ => List.Perm.refl _) (fun _ _ _ _ _ _ => List.Perm.refl _) (fun _ _ _ _ _ _ h => h.trans (perm_swp _ _ _)) L i

theorem downL_beyond (L : List Ent) (n i : Nat) (hn : n ≤ L.length) : ∀ k, n ≤ k → at' (downL L n i).1 k = at' L k :=
  downL_ind (P := fun L _ r => n ≤ L.length → ∀ k, n ≤ k → at' r.1 k = at' L k) (fun _ _ _ _ _ _ => rfl) (fun _ _ _ _ _ _ _ _ _ => rfl)
    (fun L i j h hj _ ih hn k hk => by
      obtain ⟨h1, h2, h3⟩ := child_lt h hj
      rw [ih (by rw [length_swp]; exact hn) k hk, at_swp (by omega) (by omega), if_neg (by omega), if_neg (by omega)]) L i hn

def Heap (L : List Ent) (n : Nat) : Prop := ∀ c, 0 < c → c < n → leE (at' L ((c - 1) / 2)) (at' L c)

theorem heap_downL (L : List Ent) (n i : Nat) (hn : n ≤ L.length) (H1 : ∀ c, 0 < c → c < n → (c - 1) / 2 ≠ i → c ≠ i → leE (at' L ((c - 1) / 2)) (at' L c))
    (H2 : ∀ c, 0 < c → c < n → (c - 1) / 2 = i → 0 < i → leE (at' L ((i - 1) / 2)) (at' L c)) :
    ((downL L n i).2 = i ∧ (downL L n i).1 = L ∧ ∀ c, 0 < c → c < n → (c - 1) / 2 = i → leE (at' L i) (at' L c)) ∨ (i < (downL L n i).2 ∧ Heap (downL L n i).1 n) := by
  refine downL_ind (n := n) (P := fun L i r => n ≤ L.length → (∀ c, 0 < c → c < n → (c - 1) / 2 ≠ i → c ≠ i → leE (at' L ((c - 1) / 2)) (at' L c)) → (∀ c, 0 < c → c < n → (c - 1) / 2 = i → 0 < i → leE (at' L ((i - 1) / 2)) (at' L c)) →
    (r.2 = i ∧ r.1 = L ∧ ∀ c, 0 < c → c < n → (c - 1) / 2 = i → leE (at' L i) (at' L c)) ∨ (i < r.2 ∧ Heap r.1 n)) ?_ ?_ ?_ L i hn H1 H2
  · intro L i h hn H1 H2
    exact .inl ⟨rfl, rfl, fun c h0 hc hp => by omega⟩
  · intro L i j h hj hl hn H1 H2
    obtain ⟨h1, h2, h3⟩ := child_lt h hj
    refine .inl ⟨rfl, rfl, fun c h0 hc hp => ?_⟩
    have hji : leE (at' L i) (at' L j) := by rw [lessAt_at (by omega) (by omega)] at hl; exact hl
    -- c is a child of i: j is the smaller one
    have hcc : c = 2 * i + 1 ∨ c = 2 * i + 2 := by omega
    refine hji.trans ?_
    by_cases hb : (decide (2 * i + 2 < n) && lessAt L (2 * i + 2) (2 * i + 1)) = true
    · rw [if_pos hb] at hj
      subst hj
      simp at hb
      rw [lessAt_at (by omega) (by omega)] at hb
      rcases hcc with rfl | rfl
      · exact leE_of_less hb.2
      · exact leE.refl _
    · rw [if_neg hb] at hj
      subst hj
      simp at hb
      rcases hcc with rfl | rfl
      · exact leE.refl _
      · have := hb (by omega)
        rw [lessAt_at (by omega) (by omega)] at this
        exact this
  · intro L i j h hj hl ih hn H1 H2
    obtain ⟨h1, h2, h3⟩ := child_lt h hj
    have hlt : lessE (at' L j) (at' L i) = true := by rw [lessAt_at (by omega) (by omega)] at hl; exact hl
    have hsw : ∀ k, at' (swp L i j) k = if k = j then at' L i else if k = i then at' L j else at' L k := at_swp (by omega) (by omega)
    have hmin : ∀ c, 0 < c → c < n → (c - 1) / 2 = i → leE (at' L j) (at' L c) := by
      intro c h0 hc hp
      have hcc : c = 2 * i + 1 ∨ c = 2 * i + 2 := by omega
      by_cases hb : (decide (2 * i + 2 < n) && lessAt L (2 * i + 2) (2 * i + 1)) = true
      · rw [if_pos hb] at hj
        subst hj
        simp at hb
        rw [lessAt_at (by omega) (by omega)] at hb
        rcases hcc with rfl | rfl
        · exact leE_of_less hb.2
        · exact leE.refl _
      · rw [if_neg hb] at hj
        subst hj
        simp at hb
        rcases hcc with rfl | rfl
        · exact leE.refl _
        · have := hb (by omega)
          rw [lessAt_at (by omega) (by omega)] at this
          exact this
    have hall : ∀ c, 0 < c → c < n → (c - 1) / 2 ≠ j → c ≠ j → leE (at' (swp L i j) ((c - 1) / 2)) (at' (swp L i j) c) := by
      intro c h0 hc hp hcj
      rw [hsw, hsw, if_neg hp, if_neg hcj]
      by_cases hpi : (c - 1) / 2 = i
      · rw [if_pos hpi, if_neg (by omega)]
        exact hmin c h0 hc hpi
      · rw [if_neg hpi]
        by_cases hci : c = i
        · subst hci
          rw [if_pos rfl]
          exact H2 j (by omega) h1 h3 h0
        · rw [if_neg hci]
          exact H1 c h0 hc hpi hci
    have hih := ih (by rw [length_swp]; exact hn) hall (by
      intro c h0 hc hp hj0
      rw [hsw, hsw, if_neg (by omega), if_pos h3, if_neg (by omega), if_neg (by omega)]
      have := H1 c h0 hc (by omega) (by omega)
      rw [hp] at this
      exact this)
    rcases hih with ⟨e1, e2, e3⟩ | ⟨e1, e2⟩
    · refine .inr ⟨by omega, ?_⟩
      rw [e2]
      intro c h0 hc
      by_cases hp : (c - 1) / 2 = j
      · rw [hp]; exact e3 c h0 hc hp
      · by_cases hcj : c = j
        · subst hcj
          rw [h3, hsw, hsw, if_neg (by omega), if_pos rfl, if_pos rfl]
          exact leE_of_less hlt
        · exact hall c h0 hc hp hcj
    · exact .inr ⟨by omega, e2⟩

theorem heap_upL (L : List Ent) (n j : Nat) (hn : n ≤ L.length) (hj : j < n) (H1 : ∀ c, 0 < c → c < n → c ≠ j → leE (at' L ((c - 1) / 2)) (at' L c))
    (H2 : ∀ c, 0 < c → c < n → (c - 1) / 2 = j → 0 < j → leE (at' L ((j - 1) / 2)) (at' L c)) : Heap (upL L j) n := by
  induction j using Nat.strongRecOn generalizing L with
  | _ j ih =>
    rw [upL]
    split
    · rename_i h0; subst h0; intro c hc hcn; exact H1 c hc hcn (by omega)
    · rename_i h0
      have hlt : (j - 1) / 2 < L.length := by omega
      cases hl : lessAt L j ((j - 1) / 2)
      · simp only [Bool.false_eq_true, if_false]
        rw [lessAt_at (by omega) hlt] at hl
        intro c hc hcn
        by_cases e : c = j
        · subst e; exact hl
        · exact H1 c hc hcn e
      · simp only [if_true]
        rw [lessAt_at (by omega) hlt] at hl
        have hsw : ∀ k, at' (swp L ((j - 1) / 2) j) k = if k = j then at' L ((j - 1) / 2) else if k = (j - 1) / 2 then at' L j else at' L k := at_swp hlt (by omega)
        generalize hi : (j - 1) / 2 = i at *
        refine ih i (by omega) _ (by rw [length_swp]; exact hn) (by omega) ?_ ?_
        · intro c hc hcn hci
          rw [hsw, hsw]
          by_cases hcj : c = j
          · subst hcj
            rw [if_pos rfl, hi, if_neg (by omega), if_pos rfl]
            exact leE_of_less hl
          · rw [if_neg hcj, if_neg hci]
            by_cases hpj : (c - 1) / 2 = j
            · rw [if_pos hpj]; exact H2 c hc hcn hpj (by omega)
            · rw [if_neg hpj]
              by_cases hpi : (c - 1) / 2 = i
              · rw [if_pos hpi]
                have := H1 c hc hcn hcj
                rw [hpi] at this
                exact (leE_of_less hl).trans this
              · rw [if_neg hpi]; exact H1 c hc hcn hcj
        · intro c hc hcn hci hi0
          rw [hsw, hsw, if_neg (by omega), if_neg (by omega)]
          have hpi := H1 i hi0 (by omega) (by omega)
          by_cases hcj : c = j
          · rw [if_pos hcj]; exact hpi
          · rw [if_neg hcj, if_neg (by omega)]
            have := H1 c hc hcn hcj
            rw [hci] at this
            exact hpi.trans this

theorem heap_min {L : List Ent} {n : Nat} (h : Heap L n) : ∀ i, i < n → leE (at' L 0) (at' L i) := by
  intro i
  induction i using Nat.strongRecOn with
  | _ i ih =>
    intro hi
    by_cases h0 : i = 0
    · subst h0; exact leE.refl _
    · exact (ih ((i - 1) / 2) (by omega) (by omega)).trans (h i (by omega) hi)

/-- The list without its last element, and that element. -/
theorem snoc_of {L : List Ent} {n : Nat} (h : L.length = n + 1) : L = L.take n ++ [at' L n] := by
  have : L.drop n = [at' L n] := by
    apply List.ext_getElem?
    intro i
    rw [List.getElem?_drop]
    cases i with
    | zero => simp [get_at (L := L) (i := n) (by omega)]
    | succ i => simp; omega
  rw [← this, List.take_append_drop]

theorem at_take {L : List Ent} {n i : Nat} (h : i < n) : at' (L.take n) i = at' L i := by simp [at', h]

theorem heap_take {L : List Ent} {n : Nat} (h : Heap L n) : Heap (L.take n) n := by
  intro c h0 hc; rw [at_take (by omega), at_take hc]; exact h c h0 hc

theorem popL_law {L : List Ent} {n : Nat} (hl : L.length = n + 1) (h : Heap L (n + 1)) :
    ∃ R, popL L = R ++ [at' L 0] ∧ R.length = n ∧ Heap R n ∧ (R ++ [at' L 0]).Perm L := by
  have hlen : (popL L).length = n + 1 := by rw [length_popL]; exact hl
  have hp : (popL L).Perm L := (perm_downL _ _ _).trans (perm_swp _ _ _)
  have hsw : ∀ k, at' (swp L 0 n) k = if k = n then at' L 0 else if k = 0 then at' L n else at' L k := at_swp (by omega) (by omega)
  have e0 : popL L = (downL (swp L 0 n) n 0).1 := by unfold popL; rw [hl]; rfl
  have hlast : at' (popL L) n = at' L 0 := by
    rw [e0, downL_beyond _ _ _ (by rw [length_swp]; omega) n (Nat.le_refl _), hsw, if_pos rfl]
  have hs := snoc_of hlen
  rw [hlast] at hs
  refine ⟨(popL L).take n, hs, by rw [List.length_take, hlen]; omega, heap_take ?_, by rw [← hs]; exact hp⟩
  have hd := heap_downL (swp L 0 n) n 0 (by rw [length_swp]; omega) (by
    intro c h0 hc hpc hc0
    rw [hsw, hsw, if_neg (by omega), if_neg hpc, if_neg (by omega), if_neg hc0]
    exact h c h0 (by omega)) (by intro c _ _ _ h; omega)
  rw [e0]
  rcases hd with ⟨d1, d2, d3⟩ | ⟨d1, d2⟩
  · rw [d2]
    intro c h0 hc
    by_cases hpc : (c - 1) / 2 = 0
    · rw [hpc]; exact d3 c h0 hc hpc
    · rw [hsw, hsw, if_neg (by omega), if_neg hpc, if_neg (by omega), if_neg (by omega)]
      exact h c h0 (by omega)
  · exact d2

theorem fixL_law {L : List Ent} {i : Nat} {e : Ent} (hi : i < L.length) (h : Heap L L.length) : Heap (fixL (L.set i e) i) L.length ∧ (fixL (L.set i e) i).Perm (L.set i e) := by
  have hat : ∀ k, k ≠ i → at' (L.set i e) k = at' L k := by
    intro k hk; simp only [at', List.getD, List.getElem?_set]; rw [if_neg (fun e => hk e.symm)]
  have hl : (L.set i e).length = L.length := by simp
  unfold fixL
  rw [hl]
  have hd := heap_downL (L.set i e) L.length i (by omega) (by
    intro c h0 hc hp hci
    rw [hat _ hp, hat _ hci]; exact h c h0 hc) (by
    intro c h0 hc hp hi0
    rw [hat _ (by omega), hat _ (by omega)]
    have a := h c h0 hc
    rw [hp] at a
    exact (h i hi0 hi).trans a)
  rcases hd with ⟨d1, d2, d3⟩ | ⟨d1, d2⟩
  · rw [if_neg (by omega), d2]
    refine ⟨heap_upL _ _ i (by omega) hi ?_ ?_, perm_upL _ _⟩
    · intro c h0 hc hci
      by_cases hp : (c - 1) / 2 = i
      · rw [hp]; exact d3 c h0 hc hp
      · rw [hat _ hp, hat _ hci]; exact h c h0 hc
    · intro c h0 hc hp hi0
      rw [hat _ (by omega), hat _ (by omega)]
      have a := h c h0 hc
      rw [hp] at a
      exact (h i hi0 hi).trans a
  · rw [if_pos d1]
    exact ⟨d2, perm_downL _ _ _⟩

theorem push_law {L : List Ent} {e : Ent} (h : Heap L L.length) : Heap (upL (L ++ [e]) L.length) (L.length + 1) ∧ (upL (L ++ [e]) L.length).Perm (L ++ [e]) := by
  have hat : ∀ k, k < L.length → at' (L ++ [e]) k = at' L k := by
    intro k hk; simp [at', List.getElem?_append_left hk]
  refine ⟨heap_upL _ _ _ (by simp) (by omega) ?_ ?_, perm_upL _ _⟩
  · intro c h0 hc hcl
    rw [hat _ (by omega), hat _ (by omega)]; exact h c h0 (by omega)
  · intro c h0 hc hp; omega

end Go.Proofs.YtjcgkmodmjckjaaGreat.V

namespace Go.Proofs.YtjcgkmodmjckjaaGreat.V
open Go.RowKit

structure QR (w : World) (Q : Nat) (v : Value) (Mb : Nat) (l : List (Int × Value)) (L E : List Ent) (A : List (Int × Int)) (t : Int) (F : Nat → Prop) : Prop where
  rep : HRep w v L
  q : QBlk w Q v (.map (some Mb)) t
  mp : IMap w Mb .i64 l
  nd : (l.map Prod.fst).Nodup
  mem : ∀ p, p ∈ l ↔ ∃ e ∈ L, p = (e.item, e.ptr)
  heap : Heap L L.length
  perm : L.Perm E
  view : E.map (fun e => (e.item, e.key)) = A
  ord : E.Pairwise (fun a b => a.time < b.time)
  bound : ∀ e ∈ E, e.time ≤ t
  ndA : (A.map Prod.fst).Nodup
  fQ : F Q
  fM : F Mb
  fH : ∀ b, hfoot v L b → F b

/-- The queue at block Q holds the items and keys of A, in the order in which the keys were set; its blocks lie in F. -/
def QRep (w : World) (Q : Nat) (A : List (Int × Int)) (t : Int) (F : Nat → Prop) : Prop := ∃ v Mb l L E, QR w Q v Mb l L E A t F

theorem QR.len {w : World} {Q : Nat} {v : Value} {Mb : Nat} {l : List (Int × Value)} {L E : List Ent} {A : List (Int × Int)} {t : Int} {F : Nat → Prop} (h : QR w Q v Mb l L E A t F) : L.length = A.length := by
  rw [h.perm.length_eq, ← h.view]; simp

theorem QR.lt {w : World} {Q : Nat} {v : Value} {Mb : Nat} {l : List (Int × Value)} {L E : List Ent} {A : List (Int × Int)} {t : Int} {F : Nat → Prop} (h : QR w Q v Mb l L E A t F) : Q < w.heap.size ∧ Mb < w.heap.size ∧ ∀ b, hfoot v L b → b < w.heap.size :=
  ⟨lt_of_heap h.q, h.mp.lt, fun _ hb => h.rep.lt hb⟩

theorem QRep.keeps {S : Nat → Prop} {w w' : World} {Q : Nat} {A : List (Int × Int)} {t : Int} {F : Nat → Prop} (h : QRep w Q A t F) (hk : Keeps S w w') (hs : ∀ b, F b → ¬ S b) : QRep w' Q A t F := by
  obtain ⟨v, Mb, l, L, E, h⟩ := h
  exact ⟨v, Mb, l, L, E, { h with rep := h.rep.keeps hk (fun b hb => hs b (h.fH b hb)), q := hk.heap h.q (hs _ h.fQ), mp := h.mp.keeps hk (hs _ h.fM) }⟩

theorem QRep.mono {w : World} {Q : Nat} {A : List (Int × Int)} {t : Int} {F F' : Nat → Prop} (h : QRep w Q A t F) (hf : ∀ b, b < w.heap.size → F b → F' b) : QRep w Q A t F' := by
  obtain ⟨v, Mb, l, L, E, h⟩ := h
  exact ⟨v, Mb, l, L, E, { h with fQ := hf _ h.lt.1 h.fQ, fM := hf _ h.lt.2.1 h.fM, fH := fun b hb => hf b (h.lt.2.2 b hb) (h.fH b hb) }⟩

/-- A key's entry. -/
theorem QR.find {w : World} {Q : Nat} {v : Value} {Mb : Nat} {l : List (Int × Value)} {L E : List Ent} {A : List (Int × Int)} {t : Int} {F : Nat → Prop} (h : QR w Q v Mb l L E A t F) {x k : Int} (hx : (x, k) ∈ A) :
    ∃ e, e ∈ L ∧ e.item = x ∧ e.key = k ∧ (x, e.ptr) ∈ l := by
  rw [← h.view] at hx
  obtain ⟨e, he, hp⟩ := List.mem_map.1 hx
  simp at hp
  have hL := h.perm.mem_iff.2 he
  exact ⟨e, hL, hp.1, hp.2, (h.mem _).2 ⟨e, hL, by rw [hp.1]⟩⟩

theorem QR.miss {w : World} {Q : Nat} {v : Value} {Mb : Nat} {l : List (Int × Value)} {L E : List Ent} {A : List (Int × Int)} {t : Int} {F : Nat → Prop} (h : QR w Q v Mb l L E A t F) {x : Int} (hx : ∀ p ∈ A, p.1 ≠ x) : ∀ p ∈ l, p.1 ≠ x := by
  intro p hp
  obtain ⟨e, he, rfl⟩ := (h.mem p).1 hp
  have : (e.item, e.key) ∈ A := by rw [← h.view]; exact List.mem_map.2 ⟨e, h.perm.mem_iff.1 he, rfl⟩
  exact hx _ this

set_option maxRecDepth 100000 in
set_option maxHeartbeats 400000 in
theorem new_any (w : World) : Calls Tryz.prog 36 #[] w fun e w' => e = .returned (.pointer (some ⟨w.heap.size + 1, 0, none⟩)) ∧ QRep w' (w.heap.size + 1) [] 0 (fun b => w.heap.size ≤ b) ∧ Keeps (fun _ => False) w w' := by
  have hmm := @run_makeMap Tryz.prog
  go_enter Tryz.func36, Tryz.ntmps36
  go_wp2
  go_ret
  refine ⟨rfl, ⟨.slice none 0 0, w.heap.size, [], [], [], ?_⟩, ((Keeps.refl _ _).alloc _).alloc _⟩
  refine ⟨⟨World.ownsRow_nil _ _ _ _, by simp, by simp⟩, ?_, (IMap.made w .i64).alloc _, by simp, by simp, fun c _ h => by simp at h, List.Perm.refl _, rfl, List.Pairwise.nil, by simp, by simp, ?_, Nat.le_refl _, ?_⟩
  · unfold QBlk
    have := heap_alloc_new (w.alloc (.map #[] 0)) (.cells #[.slice none 0 0, .map (some w.heap.size), .int .i64 0] 117 (0, 0))
    simpa using this
  · show w.heap.size ≤ w.heap.size + 1; omega
  · rintro b (hb | ⟨e, he, _⟩)
    · simp [Value.ownBlock] at hb
    · simp at he

set_option maxRecDepth 100000 in
set_option maxHeartbeats 400000 in
theorem qlen_any (w : World) (Q : Nat) (A : List (Int × Int)) (t : Int) (F : Nat → Prop) (h : QRep w Q A t F) :
    Calls Tryz.prog 38 #[.pointer (some ⟨Q, 0, none⟩)] w fun e w' => e = .returned (.int .i64 (A.length : Int)) ∧ w = w' := by
  obtain ⟨v, Mb, l, L, E, h⟩ := h
  obtain ⟨ao, cap, rfl⟩ := h.rep.isSlice
  have c0 := h.q.c0
  have HL := Lib.hid h.len
  clear h
  go_enter Tryz.func38, Tryz.ntmps38
  go_wp2
  go_ret
  exact ⟨by rw [← HL.out]; rfl, rfl⟩

theorem zero_entry (w : World) : (zeroValue 118).run Tryz.prog w = .ok (.pointer none) w := by kernel_rfl

end Go.Proofs.YtjcgkmodmjckjaaGreat.V

namespace Go.Proofs.YtjcgkmodmjckjaaGreat.V
open Go.RowKit

def setA (A : List (Int × Int)) (x k : Int) : List (Int × Int) := A.filter (fun p => p.1 != x) ++ [(x, k)]

theorem setA_new {A : List (Int × Int)} {x k : Int} (hx : ∀ p ∈ A, p.1 ≠ x) : setA A x k = A ++ [(x, k)] := by
  unfold setA; congr 1; rw [List.filter_eq_self]; intro p hp; simpa using hx p hp

theorem filter_view (E : List Ent) (x : Int) : (E.filter (fun e => e.item != x)).map (fun e => (e.item, e.key)) = (E.map (fun e => (e.item, e.key))).filter (fun p => p.1 != x) := by
  rw [List.filter_map]; rfl

theorem nodup_setA {A : List (Int × Int)} {x k : Int} (h : (A.map Prod.fst).Nodup) : ((setA A x k).map Prod.fst).Nodup := by
  unfold setA
  rw [List.map_append, List.nodup_append]
  refine ⟨(List.Sublist.map Prod.fst List.filter_sublist).nodup h, by simp, ?_⟩
  intro a ha b hb e
  simp at hb
  subst hb; subst e
  obtain ⟨p, hp, rfl⟩ := List.mem_map.1 ha
  have := (List.mem_filter.1 hp).2
  simp at this

theorem HRep.cells {w : World} {v : Value} {L : List Ent} (h : HRep w v L) {b : Nat} (hb : hfoot v L b) : ∃ cs T fr, w.heap[b]? = some (.cells cs T fr) := by
  rcases hb with hb | ⟨e, he, rfl⟩
  · rcases h.row.2 with ⟨hv, _⟩ | ⟨g, cap, cur, hv, _, hg, _⟩
    · rw [hv] at hb; simp [Value.ownBlock] at hb
    · rw [hv] at hb; simp [Value.ownBlock] at hb
      subst hb; exact ⟨_, _, _, hg⟩
  · obtain ⟨j, hj⟩ := List.mem_iff_getElem?.1 he
    exact ⟨_, _, _, h.ent j e hj⟩

/-- What Set leaves: for a new item. -/
theorem set_new_post {w w1 w2 w3 : World} {Q : Nat} {v : Value} {Mb : Nat} {l : List (Int × Value)} {L E : List Ent} {A : List (Int × Int)} {t : Int} {F : Nat → Prop} (h : QR w Q v Mb l L E A t F) (x k : Int) (hx : ∀ p ∈ A, p.1 ≠ x) (e0 : Ent)
    (he : e0.item = x ∧ e0.key = k ∧ e0.time = t + 1 ∧ e0.blk = w.heap.size)
    (k1 : Keeps (fun b => b = Q) w w1) (q1 : QBlk w1 Q v (.map (some Mb)) (t + 1)) (m2 : IMap w2 Mb .i64 (l ++ [(x, e0.ptr)])) (k2 : Keeps (fun b => b = Mb) w1 w2)
    {v' : Value} (hp : PushPost w2 Q v (.map (some Mb)) (t + 1) L (upL (L ++ [e0]) L.length) e0 w3 v') : QRep w3 Q (setA A x k) (t + 1) (fun b => (F b ∧ ((∃ cs T fr, w3.heap[b]? = some (.cells cs T fr)) ∨ ∃ es c, w.heap[b]? = some (.map es c))) ∨ (w.heap.size ≤ b ∧ ∃ cs T fr, w3.heap[b]? = some (.cells cs T fr))) ∧ Keeps F w w3 := by
  have hlt := h.lt
  have hlaw := push_law (e := e0) h.heap
  have hmL : ∀ e, e ∈ upL (L ++ [e0]) L.length ↔ e ∈ L ∨ e = e0 := fun e => by rw [hlaw.2.mem_iff]; simp
  have hlen : (upL (L ++ [e0]) L.length).length = L.length + 1 := by rw [hlaw.2.length_eq]; simp
  have nM : Mb ≠ Q := by
    rintro rfl
    obtain ⟨es, c, hb, _⟩ := h.mp
    have := h.q; unfold QBlk at this; rw [hb] at this; simp at this
  have nMf : ¬ hfoot v L Mb := by
    intro hb
    obtain ⟨es, c, hbm, _⟩ := h.mp
    rcases hb with hb | ⟨e, he, rfl⟩
    · rcases h.rep.row.2 with ⟨hv, _⟩ | ⟨g, cap, cur, hv, _, hg, _⟩
      · rw [hv] at hb; simp [Value.ownBlock] at hb
      · rw [hv] at hb; simp [Value.ownBlock] at hb
        subst hb; rw [hbm] at hg; simp at hg
    · obtain ⟨j, hj⟩ := List.mem_iff_getElem?.1 he
      rw [h.rep.ent j e hj] at hbm; simp at hbm
  have hk3 : Keeps F w w3 := by
    refine ((k1.mono (S' := F) (fun b _ hb => hb ▸ h.fQ)).trans (k2.mono (S' := F) (fun b _ hb => hb ▸ h.fM))).trans' hp.keeps ?_
    rintro b (hb | hb | hb)
    · exact .inl (hb ▸ h.fQ)
    · exact .inl (h.fH b hb)
    · exact .inr (by rw [hb, he.2.2.2]; exact Nat.le_refl _)
  refine ⟨⟨v', Mb, l ++ [(x, e0.ptr)], upL (L ++ [e0]) L.length, E ++ [e0], ?_⟩, hk3⟩
  refine { rep := hp.rep, q := hp.q, mp := m2.keeps hp.keeps ?_, nd := ?_, mem := ?_, heap := by rw [hlen]; exact hlaw.1, perm := ?_, view := ?_, ord := ?_, bound := ?_, ndA := nodup_setA h.ndA, fQ := .inl ⟨h.fQ, .inl ⟨_, _, _, hp.q⟩⟩, fM := .inl ⟨h.fM, .inr (by obtain ⟨es, c, hb, _⟩ := h.mp; exact ⟨es, c, hb⟩)⟩, fH := ?_ }
  · rintro (hb | hb | hb)
    · exact nM hb
    · exact nMf hb
    · rw [he.2.2.2] at hb; have := hlt.2.1; omega
  · rw [List.map_append, List.nodup_append]
    refine ⟨h.nd, by simp, ?_⟩
    intro a ha b hb e
    simp at hb
    obtain ⟨p, hp', rfl⟩ := List.mem_map.1 ha
    exact h.miss hx p hp' (by rw [e, hb])
  · intro p
    rw [List.mem_append, h.mem]
    constructor
    · rintro (⟨e, he', rfl⟩ | hp')
      · exact ⟨e, (hmL e).2 (.inl he'), rfl⟩
      · simp at hp'; subst hp'; exact ⟨e0, (hmL e0).2 (.inr rfl), by rw [he.1]⟩
    · rintro ⟨e, he', rfl⟩
      rcases (hmL e).1 he' with h' | rfl
      · exact .inl ⟨e, h', rfl⟩
      · right; simp [he.1]
  · exact hlaw.2.trans (h.perm.append_right [e0])
  · rw [setA_new hx, List.map_append, h.view]; simp [he.1, he.2.1]
  · rw [List.pairwise_append]
    refine ⟨h.ord, by simp, ?_⟩
    intro a ha b hb
    simp at hb; subst hb
    have := h.bound a ha
    rw [he.2.2.1]; omega
  · intro e he'
    rcases List.mem_append.1 he' with h' | h'
    · have := h.bound e h'; omega
    · simp at h'; subst h'; rw [he.2.2.1]; exact Int.le_refl _
  · intro b hb
    have hc := hp.rep.cells hb
    rcases hp.sub b hb with hb | hb | hb
    · exact .inl ⟨h.fH b hb, .inl hc⟩
    · exact .inr ⟨by rw [hb, he.2.2.2]; exact Nat.le_refl _, hc⟩
    · exact .inr ⟨Nat.le_trans (Nat.le_trans k1.size k2.size) hb, hc⟩

set_option maxRecDepth 100000 in
set_option maxHeartbeats 1000000 in
theorem hpush_any (w : World) (Q : Nat) (v m : Value) (t : Int) (L : List Ent) (e0 : Ent) (x : Value) (h : HRep w v L) (hQ : QBlk w Q v m t)
    (he : w.heap[e0.blk]? = some (.cells #[.int .i64 e0.item, .int .i64 e0.key, .int .i64 e0.time, x] 121 (0, 0))) (hn : ¬ hfoot v L e0.blk) (hs : L.length + 1 ≤ 1000000) :
    Calls Tryz.prog 74 #[.iface 123 (.pointer (some ⟨Q, 0, none⟩)), .iface 118 (.pointer (some ⟨e0.blk, 0, none⟩))] w fun e w' => e = .returned (.tuple #[]) ∧ ∃ v', PushPost w Q v m t L (upL (L ++ [e0]) L.length) e0 w' v' := by
  have mP := fun w => method_Push_raw ⟨Q, 0, none⟩ w
  have H0 := Lib.hid h
  have HQ := Lib.hid hQ
  have HE := Lib.hid he
  have HN := Lib.hid hn
  clear h hQ he hn
  go_enter Tryz.func74, Tryz.ntmps74
  go_wp2_with fail
  refine (opush_any _ Q v m t L e0 x H0.out HQ.out HE.out HN.out hs).mono ?_; rintro e w1 ⟨rfl, v', hP⟩
  have mN := method_Len hP.q.c0
  have HP := Lib.hid hP
  clear hP
  go_wp2_with fail
  refine (len_any _ v' _ HP.out.rep).mono ?_; rintro e w' ⟨he, rfl⟩; rw [List.length_append, List.length_singleton] at he; subst he
  go_wp2_with fail
  refine (up_any _ Q v' _ HP.out.rep HP.out.q.c0 (HP.out.q.nfoot HP.out.rep) L.length (by simp)).mono ?_; rintro e w2 ⟨rfl, hU⟩
  have hp2 : PushPost w Q v m t L (upL (L ++ [e0]) L.length) e0 w2 v' :=
    ⟨hU.rep, hU.qblk HP.out.q HP.out.rep, HP.out.keeps.trans' hU.keeps (fun b hb => by rcases HP.out.sub b hb with h | h | h; exact .inl (.inr (.inl h)); exact .inl (.inr (.inr h)); exact .inr h),
      fun b hb => HP.out.sub b (hU.sub b hb)⟩
  have HP2 := Lib.hid hp2
  clear hp2 hU
  go_wp2_with fail
  go_end0
  exact ⟨rfl, v', HP2.out⟩

set_option maxRecDepth 100000 in
set_option maxHeartbeats 1000000 in
theorem set_new2 (w : World) (Q : Nat) (A : List (Int × Int)) (t : Int) (F : Nat → Prop) (h : QRep w Q A t F) (x k : Int) (hx : ∀ p ∈ A, p.1 ≠ x) (ht : 0 ≤ t ∧ t ≤ 1000000000000000) (hA : A.length ≤ 999999) :
    Calls Tryz.prog 37 #[.pointer (some ⟨Q, 0, none⟩), .int .i64 x, .int .i64 k] w fun e w' => e = .returned (.tuple #[]) ∧ QRep w' Q (setA A x k) (t + 1) (fun b => (F b ∧ ((∃ cs T fr, w'.heap[b]? = some (.cells cs T fr)) ∨ ∃ es c, w.heap[b]? = some (.map es c))) ∨ (w.heap.size ≤ b ∧ ∃ cs T fr, w'.heap[b]? = some (.cells cs T fr))) ∧ Keeps F w w' := by
  obtain ⟨v, Mb, l, L, E, h⟩ := h
  have c1 := h.q.c1
  have c2 := h.q.c2
  have f2 : w.frozen? ⟨Q, 2, none⟩ = false := frozen_of_blk h.q
  have lQ := h.lt.1
  have lM := h.lt.2.1
  have nM : Mb ≠ Q := by
    rintro rfl
    obtain ⟨es, c, hb, _⟩ := h.mp
    have := h.q; unfold QBlk at this; rw [hb] at this; simp at this
  have q1 : QBlk (w.setCell ⟨Q, 2, none⟩ (.int .i64 (t + 1))) Q v (.map (some Mb)) (t + 1) := by unfold QBlk; rw [blk_set_same h.q]; rfl
  have k1 : Keeps (fun b => b = Q) w (w.setCell ⟨Q, 2, none⟩ (.int .i64 (t + 1))) := (Keeps.refl (fun b => b = Q) w).setCell (p := ⟨Q, 2, none⟩) (.inl rfl) _
  have m1 := h.mp.keeps k1 nM
  have hmiss := h.miss hx
  have r1 := h.rep.keeps k1 (fun b hb e => h.q.nfoot h.rep (e ▸ hb))
  have sz1 : (w.setCell ⟨Q, 2, none⟩ (.int .i64 (t + 1))).heap.size = w.heap.size := World.size_setCell ..
  have HL := Lib.hid h.len
  have HM := Lib.hid m1
  have HMS := Lib.hid hmiss
  have H0 := Lib.hid h
  have HX := Lib.hid hx
  have Q1 := Lib.hid q1
  have K1 := Lib.hid k1
  have R1 := Lib.hid r1
  have t0 := ht.1
  have t1 := ht.2
  clear h hx hmiss m1 q1 k1 r1 ht
  go_enter Tryz.func37, Tryz.ntmps37
  go_wp2_with (first | (at_lookup; refine wpList_ilookup_ok_miss rfl _ _ _ rfl Tryz.underlying113 Tryz.underlying3 HM.out (zero_entry _) x rfl rfl HMS.out ?_) | (at_mapUpdate; refine wpList_iupdate_new rfl _ _ _ _ rfl Tryz.underlying113 Tryz.underlying3 (HM.out.alloc _) x _ rfl rfl rfl HMS.out ?_))
  intro w2 m2 k2
  have q2 : QBlk w2 Q v (.map (some Mb)) (t + 1) := k2.heap ((Keeps.refl (fun _ => False) _).alloc _ |>.heap Q1.out (fun h => h)) (fun e => nM e.symm)
  have r2 : HRep w2 v L := (R1.out.keeps ((Keeps.refl (fun _ => False) _).alloc _) (fun _ _ h => h)).keeps k2 (fun b hb e => by
    subst e
    obtain ⟨es, c, hbm, _⟩ := H0.out.mp
    rcases hb with hb | ⟨e, he, rfl⟩
    · rcases H0.out.rep.row.2 with ⟨hv, _⟩ | ⟨g, cap, cur, hv, _, hg, _⟩
      · rw [hv] at hb; simp [Value.ownBlock] at hb
      · rw [hv] at hb; simp [Value.ownBlock] at hb
        subst hb; rw [hbm] at hg; simp at hg
    · obtain ⟨j, hj⟩ := List.mem_iff_getElem?.1 he
      rw [H0.out.rep.ent j e hj] at hbm; simp at hbm)
  have e2 : w2.heap[w.heap.size]? = some (.cells #[.int .i64 x, .int .i64 k, .int .i64 (t + 1), .int .i64 0] 121 (0, 0)) := by
    rw [k2.block _ (by simp) (by omega)]
    have := heap_alloc_new (w.setCell ⟨Q, 2, none⟩ (.int .i64 (t + 1))) (.cells #[.int .i64 x, .int .i64 k, .int .i64 (t + 1), .int .i64 0] 121 (0, 0))
    rw [sz1] at this
    exact this
  have n2 : ¬ hfoot v L w.heap.size := fun hb => by have := H0.out.lt.2.2 _ hb; omega
  have c1' := q2.c1
  have M2 := Lib.hid m2
  have K2 := Lib.hid k2
  have Q2 := Lib.hid q2
  have R2 := Lib.hid r2
  have E2 := Lib.hid e2
  have N2 := Lib.hid n2
  clear m2 k2 q2 r2 e2 n2
  go_wp2_with fail
  refine (hpush_any _ Q v _ (t + 1) L ⟨w.heap.size, x, k, t + 1⟩ _ R2.out Q2.out E2.out N2.out (by have := HL.out; omega)).mono ?_; rintro e w3 ⟨rfl, v', hP⟩
  have hpost := set_new_post H0.out x k HX.out ⟨w.heap.size, x, k, t + 1⟩ ⟨rfl, rfl, rfl, rfl⟩ (K1.out.alloc _) (((Keeps.refl (fun _ => False) _).alloc _).heap Q1.out (fun h => h)) M2.out K2.out hP
  have HPO := Lib.hid hpost
  clear hpost hP
  go_wp2_with fail
  go_end0
  exact ⟨rfl, HPO.out⟩
theorem set_new (w : World) (Q : Nat) (A : List (Int × Int)) (t : Int) (F : Nat → Prop) (h : QRep w Q A t F) (x k : Int) (hx : ∀ p ∈ A, p.1 ≠ x) (ht : 0 ≤ t ∧ t ≤ 1000000000000000) (hA : A.length ≤ 999999) :
    Calls Tryz.prog 37 #[.pointer (some ⟨Q, 0, none⟩), .int .i64 x, .int .i64 k] w fun e w' => e = .returned (.tuple #[]) ∧ QRep w' Q (setA A x k) (t + 1) (fun b => F b ∨ w.heap.size ≤ b) ∧ Keeps F w w' :=
  (set_new2 w Q A t F h x k hx ht hA).mono fun _ _ h => ⟨h.1, h.2.1.mono (fun _ _ hb => hb.imp (fun h => h.1) (fun h => h.1)), h.2.2⟩

end Go.Proofs.YtjcgkmodmjckjaaGreat.V
