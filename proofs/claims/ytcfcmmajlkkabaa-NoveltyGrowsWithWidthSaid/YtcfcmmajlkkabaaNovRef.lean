/- The reference's Novelty. -/
import Derived.Test.YtcfcmmajlkkabaaTwoL
namespace Go.Proofs.Ytcfcmmajlkkabaa
open Go.RowKit

def NovRefPost (t : Tsk) (n : Nat) (w : World) (e : Ending) (w' : World) : Prop := Keeps (fun _ => False) w w' ∧
  ∃ (o : Option (List Nat)) (m : Nat) (v : Value), NovRes (accW (wd t.goal)) (covW n) (wordsOf t.ops) (wd t.init) o m ∧ e = .returned (.tuple #[v, .bool o.isSome, .int .i64 (m : Int)]) ∧ Ints w' v (intsP (o.getD [])) ∧ ∀ k, v.ownBlock = some k → w.heap.size ≤ k

set_option maxRecDepth 100000 in
set_option maxHeartbeats 4000000 in
theorem novRef_any (w : World) (vi vg vo : Value) (t : Tsk) (n : Nat) (l : List Nat) (h : TaskAt w vi vg vo t) (ok : t.Ok) (hx : explored t = some l) (hn : n ≤ 100) :
    Calls Try.prog 36 #[.agg #[.int .i64 t.n, vi, vg, vo], .int .i64 (n : Int)] w (NovRefPost t n w) := by
  obtain ⟨i0, hi0, hz0, hz1, hz2⟩ := info_parts Try.info3
  obtain ⟨j0, hj0, jz0, jz1, jz2⟩ := info_parts Try.info22
  obtain ⟨ai, ci, h1, _⟩ := h.init.form
  obtain ⟨ag, cg, h2, _⟩ := h.goal.form
  obtain ⟨ao, co, h3, hmo⟩ := h.ops.form
  subst h1 h2 h3
  have hn32 : t.n ≤ 32 := by have := ok.n1; omega
  have hgi : Good t.n (wd t.init) := good_wd hn32 ok.init
  have hfi : facts (wd t.init) = t.init := facts_wd (isSet_mono ok.init hn32)
  have HB := Lib.hid (Four.new w (.int .i64 t.n) (.slice ai t.init.length ci) (.slice ag t.goal.length cg) (.slice ao t.ops.length co) 25)
  have K1 := (Keeps.refl (fun _ => False) w).alloc (.cells #[.int .i64 t.n, .slice ai t.init.length ci, .slice ag t.goal.length cg, .slice ao t.ops.length co] 25)
  have HT := Lib.hid (h.keeps0 K1)
  have HI0 := Lib.hid h.init
  have HK := Lib.hid K1; have OK := Lib.hid ok; have HX := Lib.hid hx; have HGI := Lib.hid hgi; have HFI := Lib.hid hfi
  have HFEW := Lib.hid (show ∀ T, PTree (wordsOf t.ops) (wd t.init) T → T.length ≤ 2000 from fun T hT => Nat.le_trans (hT.few hx) (reached_some hx).2.1)
  have HGR := Lib.hid (show ∀ T, PTree (wordsOf t.ops) (wd t.init) T → ∀ x ∈ keysT T, Good t.n x from fun T hT x hx' => by
    obtain ⟨f, hf, rfl⟩ := List.mem_map.1 hx'
    exact good_reach ok hgi (hT.reach f hf))
  clear h K1 ok hx hgi hfi
  go_enter Try.func36, Try.ntmps36
  go_upto_region 1 with fail
  generalize (w.alloc (.cells #[.int .i64 t.n, .slice ai t.init.length ci, .slice ag t.goal.length cg, .slice ao t.ops.length co] 25)) = w1 at HB HT HK ⊢
  have hbx := HB.out.lt
  obtain ⟨d0, d1, d2, d3⟩ := HB.out
  go_wp2_with fail
  refine (subset_any _ _ _ t.goal t.init HT.out.goal HT.out.init).mono ?_; rintro e w2 ⟨rfl, rfl⟩
  have hacc0 := accW_sub OK.out HGI.out
  rw [HFI.out] at hacc0
  rw [hacc0]
  clear hacc0
  cases hacc : accW (wd t.goal) (wd t.init) with
  | true =>
    have HA := Lib.hid hacc
    clear hacc
    go_wp2_with fail
    refine bodyPost_ret (v := .tuple #[.slice none 0 0, .bool true, .int .i64 0]) (by simp [results, Try.results36, go_sem]) rfl ?_
    exact ⟨HK.out, some [], 0, _, .start HA.out, rfl, Ints.nil _, fun k hk => by simp [Value.ownBlock] at hk⟩
  | false =>
    have HA := Lib.hid hacc
    clear hacc
    go_wp2_with fail
    have HR3 := Lib.hid (show TwoL ((w1.alloc (.cells #[.slice ai t.init.length ci] 22)).alloc (.cells #[.slice none 0 0] 22)) w1.heap.size (.slice (some ⟨w1.heap.size, 0, none⟩) 1 1) (.slice (some ⟨w1.heap.size + 1, 0, none⟩) 1 1) (factsT [⟨wd t.init, wd t.init, 0, []⟩]) (pathsT [⟨wd t.init, wd t.init, 0, []⟩]) [.slice ai t.init.length ci] [.slice none 0 0] by
      have n1 := heap_alloc_new w1 (.cells #[.slice ai t.init.length ci] 22)
      have n2 := heap_alloc_new (w1.alloc (.cells #[.slice ai t.init.length ci] 22)) (.cells #[.slice none 0 0] 22)
      rw [World.size_alloc] at n2
      have k1 := (Keeps.refl (fun _ => False) w1).alloc (.cells #[.slice ai t.init.length ci] 22)
      have k2 := (Keeps.refl (fun _ => False) (w1.alloc (.cells #[.slice ai t.init.length ci] 22))).alloc (.cells #[.slice none 0 0] 22)
      refine ⟨⟨by simp [factsT, keysT], .inr ⟨w1.heap.size, 1, _, rfl, Nat.le_refl _, k2.heap n1 (fun h => h), by simp [factsT, keysT], by unfold maxLen; omega, by simp, by simp [factsT, keysT]⟩⟩, ⟨by simp [pathsT], .inr ⟨w1.heap.size + 1, 1, _, rfl, by omega, n2, by simp [pathsT], by unfold maxLen; omega, by simp, by simp [pathsT]⟩⟩, fun k hk e => ?_, fun i x hx => ?_, fun i x hx => ?_⟩
      · simp [Value.ownBlock] at hk e; omega
      · cases i with
        | zero =>
          simp [factsT, keysT] at hx; subst hx
          rw [HFI.out]
          refine ⟨_, rfl, HT.out.init.keeps0 (k1.trans k2), fun h0 k hk => ?_⟩
          have := Ints.lt HT.out.init h0 k hk
          simp [Value.ownBlock]; omega
        | succ i => simp [factsT, keysT] at hx
      · cases i with
        | zero =>
          simp [pathsT, intsP] at hx; subst hx
          exact ⟨_, rfl, Ints.nil _, fun h0 => by simp at h0⟩
        | succ i => simp [pathsT] at hx)
    have HK3 := Lib.hid (show Keeps (fun _ => False) w1 ((w1.alloc (.cells #[.slice ai t.init.length ci] 22)).alloc (.cells #[.slice none 0 0] 22)) from ((Keeps.refl _ _).alloc _).alloc _)
    generalize ((w1.alloc (.cells #[.slice ai t.init.length ci] 22)).alloc (.cells #[.slice none 0 0] 22)) = w2 at HR3 HK3 ⊢
    clear d0 d1 d2 d3 hbx
    go_loopw [7, 8, 9] (fun v7 v8 v9 wr => ∃ (i : Nat) (vs1 vs2 : List Value), i ≤ (novT (accW (wd t.goal)) (covW n) (wordsOf t.ops) (wd t.init) i).length ∧ NovNo (accW (wd t.goal)) (covW n) (wordsOf t.ops) (wd t.init) i ∧ v9 = .int .i64 (i : Int) ∧ TwoL wr w1.heap.size v7 v8 (factsT (novT (accW (wd t.goal)) (covW n) (wordsOf t.ops) (wd t.init) i)) (pathsT (novT (accW (wd t.goal)) (covW n) (wordsOf t.ops) (wd t.init) i)) vs1 vs2 ∧ Keeps (fun _ => False) w1 wr) (fun _ _ v9 _ => 2001 - (intOf v9).toNat)
    case atStart => exact ⟨0, _, _, Nat.zero_le _, fun j e hj => absurd hj (Nat.not_lt_zero _), rfl, HR3.out, HK3.out⟩
    case round =>
      obtain ⟨i, vs1, vs2, hil, hno, rfl, hr, hkw⟩ := hrel
      have hok := novT_ok (accW (wd t.goal)) (covW n) (wordsOf t.ops) (wd t.init) i
      have hfew := HFEW.out _ hok
      obtain ⟨T, hT⟩ : ∃ T, novT (accW (wd t.goal)) (covW n) (wordsOf t.ops) (wd t.init) i = T := ⟨_, rfl⟩
      rw [hT] at hil hr hok hfew
      have HNT := Lib.hid hT; have HNO := Lib.hid hno; have HR := Lib.hid hr; have KW := Lib.hid hkw; have HOK := Lib.hid hok
      have hbr := (HB.out.keeps0 hkw).lt
      obtain ⟨d0, d1, d2, d3⟩ := HB.out.keeps0 hkw
      obtain ⟨av1, cv1, hav1⟩ := ownsRow_form1 hr.own1
      obtain ⟨av2, cv2, hav2⟩ := ownsRow_form1 hr.own2
      rw [factsT_len] at hav1
      rw [pathsT_len] at hav2
      subst hav1 hav2
      clear hT hno hr hkw hok
      by_cases hlt : i < T.length
      · obtain ⟨e, he⟩ : ∃ e, T[i]? = some e := ⟨_, List.getElem?_eq_getElem hlt⟩
        have HE := Lib.hid he
        have HGE := Lib.hid (HGR.out _ HOK.out e.to (List.mem_map.2 ⟨e, List.mem_of_getElem? he, rfl⟩))
        clear he
        go_upto_region 9 with fail
        clear d0 d1 d2 d3 hbr
        go_loopw [7, 8, 10] (fun v7 v8 v10 wq => ∃ (j : Nat) (vs1 vs2 : List Value), j ≤ t.ops.length ∧ v10 = .int .i64 (j : Int) ∧ (novL (accW (wd t.goal)) (covW n) e T (stepsFrom 0 ((wordsOf t.ops).take j) e.to)).2 = none ∧ TwoL wq w1.heap.size v7 v8 (factsT (novL (accW (wd t.goal)) (covW n) e T (stepsFrom 0 ((wordsOf t.ops).take j) e.to)).1) (pathsT (novL (accW (wd t.goal)) (covW n) e T (stepsFrom 0 ((wordsOf t.ops).take j) e.to)).1) vs1 vs2 ∧ Keeps (fun _ => False) w1 wq) (fun _ _ v10 _ => t.ops.length - (intOf v10).toNat)
        case atStart => exact ⟨0, vs1, vs2, by omega, rfl, rfl, HR.out, KW.out⟩
        case round =>
          obtain ⟨j, ws1, ws2, hj, rfl, hnone, hr2, hkq⟩ := hrel
          have hsub : ∀ x ∈ stepsFrom 0 ((wordsOf t.ops).take j) e.to, x ∈ wsteps (wordsOf t.ops) e.to := fun x hx => (stepsTo_prefix (wordsOf t.ops) e.to j).subset hx
          have hPT := novL_ok (acc := accW (wd t.goal)) (cov := covW n) HOK.out (List.mem_of_getElem? HE.out) hsub
          have hpx := novL_prefix (acc := accW (wd t.goal)) (cov := covW n) (e := e) (stepsFrom 0 ((wordsOf t.ops).take j) e.to) T
          have hsn := fun x => novL_snoc (x := x) hnone
          obtain ⟨T', hT'⟩ : ∃ T', (novL (accW (wd t.goal)) (covW n) e T (stepsFrom 0 ((wordsOf t.ops).take j) e.to)).1 = T' := ⟨_, rfl⟩
          rw [hT'] at hr2 hPT hpx hsn
          have hTi : T'[i]? = some e := by obtain ⟨r, rfl⟩ := hpx; rw [List.getElem?_append_left hlt]; exact HE.out
          have hfw := HFEW.out _ hPT
          have HT' := Lib.hid hT'; have HNN := Lib.hid hnone; have HPT := Lib.hid hPT; have HSN := Lib.hid hsn; have HTI := Lib.hid hTi; have HR2 := Lib.hid hr2; have KQ := Lib.hid hkq
          have hbq := (HB.out.keeps0 hkq).lt
          obtain ⟨q0, q1, q2, q3⟩ := HB.out.keeps0 hkq
          have hil2 : i < T'.length := (List.getElem?_eq_some_iff.1 hTi).1
          obtain ⟨g1, cap1, hv1⟩ := hr2.form1 (by rw [factsT_len]; omega)
          obtain ⟨g2, cap2, hv2⟩ := hr2.symm.form1 (by rw [pathsT_len]; omega)
          rw [factsT_len] at hv1
          rw [pathsT_len] at hv2
          subst hv1 hv2
          clear hsub hpx hsn hT' hnone hPT hTi hr2 hkq
          by_cases hjl : j < t.ops.length
          · obtain ⟨o, ho⟩ : ∃ o, t.ops[j]? = some o := ⟨_, List.getElem?_eq_getElem hjl⟩
            have HOO := Lib.hid ho
            have hok := OK.out.ops o (List.mem_of_getElem? ho)
            obtain ⟨hap, haf, hgn⟩ := good_next hn32 hok HGE.out
            have HAP := Lib.hid hap; have HAF := Lib.hid haf; have HGN := Lib.hid hgn
            have hwo : (wordsOf t.ops)[j]? = some o.word := by unfold wordsOf; rw [List.getElem?_map, ho]; rfl
            have HST := Lib.hid (stepsFrom_take (s := e.to) hwo)
            clear ho hok hap haf hgn hwo
            obtain ⟨u, hu, hiu, hua⟩ := HR2.out.st1 i _ (factsT_get HTI.out)
            have hcu := HR2.out.cell1 hu
            obtain ⟨au, cu, hfu, _⟩ := hiu.form
            have HIU := Lib.hid hiu; have HTQ := Lib.hid (HT.out.keeps0 KQ.out)
            have HGK := Lib.hid (HGR.out _ HPT.out)
            subst hfu
            clear hu hiu hua
            go_upto_region 11 with fail
            go_still_tail 6, (by kernel_rfl)
            change wpList _ _ _ _ _ wr.drew
            have KD := (Keeps.refl (fun _ => False) wr).drew
            have HTD := Lib.hid (HTQ.out.keeps0 KD); have HID := Lib.hid (show Ints wr.drew (.slice au (facts e.to).length cu) (facts e.to) from HIU.out.keeps0 KD)
            have HRD := Lib.hid (HR2.out.keeps0 KD); have KDD := Lib.hid (KQ.out.trans KD)
            have hcu2 := KD.cell hcu (fun h => h)
            clear KD hcu q0 q1 q2 q3 HTQ HIU HR2 KQ
            generalize wr.drew = w4 at HTD HID HRD KDD hcu2 ⊢
            go_wp2_with fail
            refine (applies_any _ _ _ _ _ t (facts e.to) j o HTD.out HID.out HOO.out).mono ?_; rintro en w5 ⟨rfl, hk5⟩
            rw [HAP.out]
            have HR5 := Lib.hid (HRD.out.keeps0 hk5); have HT5 := Lib.hid (HTD.out.keeps0 hk5); have HI5 := Lib.hid (show Ints w5 (.slice au (facts e.to).length cu) (facts e.to) from HID.out.keeps0 hk5); have K5 := Lib.hid (KDD.out.trans hk5)
            have hcu5 := hk5.cell hcu2 (fun h => h)
            clear hk5 HRD HTD HID KDD hcu2
            cases hcan : o.word.can e.to with
            | false =>
              have HSQ := Lib.hid (show stepsFrom 0 ((wordsOf t.ops).take (j + 1)) e.to = stepsFrom 0 ((wordsOf t.ops).take j) e.to by rw [HST.out, hcan]; simp)
              clear hcan
              go_wp2_with fail
              go_roundw
              case rel => exact ⟨j + 1, ws1, ws2, by omega, by go_num, by rw [HSQ.out]; exact HNN.out, by rw [HSQ.out, HT'.out]; exact HR5.out, K5.out⟩
              case measure => simp [intOf]; omega
            | true =>
              have HSQ := Lib.hid (show stepsFrom 0 ((wordsOf t.ops).take (j + 1)) e.to = stepsFrom 0 ((wordsOf t.ops).take j) e.to ++ [⟨j, o.word.cost, o.word.next e.to⟩] by rw [HST.out, hcan]; simp)
              clear hcan
              have hb5 := (HB.out.keeps0 K5.out).lt
              obtain ⟨q0, q1, q2, q3⟩ := HB.out.keeps0 K5.out
              go_upto_region 12 with fail
              go_still_tail 6, (by kernel_rfl)
              change wpList _ _ _ _ _ w5.drew
              have KD := (Keeps.refl (fun _ => False) w5).drew
              have HTD := Lib.hid (HT5.out.keeps0 KD); have HID := Lib.hid (show Ints w5.drew (.slice au (facts e.to).length cu) (facts e.to) from HI5.out.keeps0 KD)
              have HRD := Lib.hid (HR5.out.keeps0 KD); have KDD := Lib.hid (K5.out.trans KD)
              clear KD hcu5 q0 q1 q2 q3 HT5 HI5 HR5 K5 hb5
              generalize w5.drew = w6 at HTD HID HRD KDD ⊢
              go_wp2_with fail
              refine (after_any _ _ _ _ _ t (facts e.to) j o HTD.out HID.out HOO.out OK.out.n0 (by have := OK.out.n1; omega)).mono ?_; rintro en w7 ⟨vn, rfl, hown7, hk7⟩
              rw [HAF.out] at hown7
              have HO7 := Lib.hid hown7
              have HNL := Lib.hid (fun k hk => (World.ownsRow.lt hown7 k hk).1)
              obtain ⟨an, cn, hvn⟩ := ownsRow_form1 hown7
              subst hvn
              have HR7 := Lib.hid (HRD.out.keeps0 hk7); have K7 := Lib.hid (KDD.out.trans hk7); have HT7 := Lib.hid (HTD.out.keeps0 hk7)
              have hs6 := hk7.size
              have HS6 := Lib.hid (show (∀ k, (Value.slice (some ⟨g1, 0, none⟩) T'.length cap1).ownBlock = some k → k < w6.heap.size) ∧ (∀ k, (Value.slice (some ⟨g2, 0, none⟩) T'.length cap2).ownBlock = some k → k < w6.heap.size) from ⟨fun k hk => (World.ownsRow.lt HRD.out.own1 k hk).2, fun k hk => (World.ownsRow.lt HRD.out.own2 k hk).2⟩)
              clear hown7 hk7 HTD HID KDD HRD
              obtain ⟨up, hup, hip, hupa⟩ := HR7.out.st2 i _ (pathsT_get HTI.out)
              have hcp := HR7.out.symm.cell1 hup
              obtain ⟨ap, cp, hfp, _⟩ := hip.form
              have HIP := Lib.hid hip
              have hpl : (intsP e.path).length ≤ 2000 := by rw [intsP_len]; have := HPT.out.path_le i e HTI.out; omega
              subst hfp
              clear hup hip hupa
              go_wp2_with fail
              refine (copy_any w7 _ (intsP e.path) HIP.out (by omega)).mono ?_; rintro en w8 ⟨vp, rfl, hown8, hk8⟩
              obtain ⟨a8, c8, hv8⟩ := ownsRow_form1 hown8
              subst hv8
              have HO8 := Lib.hid hown8; have K78 := Lib.hid hk8
              have hs7 := hk8.size
              clear hown8 hk8 hcp HIP
              go_wp2_with (at_builtin; refine wpList_append_d rfl _ _ _ rfl w7.heap.size 3 i0 _ 1 8 Try.underlying22 hi0 hz0 hz1 hz2 rfl (by omega) _ (intsP e.path).length ((intsP e.path).map (Value.int .i64)) (by rfl) (World.ownsRow.alloc HO8.out (.cells #[.int .i64 (j : Int)] 3)) ⟨w8.heap.size, 0, none⟩ 1 1 [.int .i64 (j : Int)] (by rfl) (by rfl) (World.news_of_block (cs := #[.int .i64 (j : Int)]) (t := 3) (fr := (0, 0)) (heap_alloc_new _ _)) (by simp [Value.oneCell']) (by omega) (by unfold maxLen; omega) (by omega) (by simp; omega) (w8.heap.size + 1) (by simp) ?_)
              intro gp cp2 w9 hown9 hgrow9 hat9 hlt9 hd9
              have K79 := own_grown HO8.out K78.out ((Keeps.refl _ w8).alloc (.cells #[.int .i64 (j : Int)] 3)) hgrow9
              have HP9 := Lib.hid (show Ints w9 (.slice (some ⟨gp, 0, none⟩) ((intsP e.path).length + 1) cp2) (intsP (e.path ++ [j])) by rw [intsP_snoc]; exact ints_snoc hown9)
              have hgp7 : w7.heap.size ≤ gp := by
                rcases hat9 with h | h
                · exact (World.ownsRow.lt HO8.out gp h).1
                · omega
              have HR9 := Lib.hid (HR7.out.keeps0 K79); have K9 := Lib.hid (K7.out.trans K79); have HT9 := Lib.hid (HT7.out.keeps0 K79)
              have HN9 := Lib.hid (K79.ownsRow HO7.out (fun _ _ h => h))
              have HI9 := Lib.hid (show Ints w9 (.slice an (facts (o.word.next e.to)).length cn) (facts (o.word.next e.to)) from Sl.of_own HN9.out |> fun h => by simpa [Ints] using h)
              have hs9 := K79.size
              clear hown9 hgrow9 hat9 hd9 K79 HR7 K7 HT7 HO7 HO8 K78
              go_wp2_with fail
              refine (place_any _ _ _ (factsT T') (facts (o.word.next e.to)) (by have h := HR9.out.lists1; exact h) HI9.out).mono ?_; rintro en w10 ⟨rfl, hk10⟩
              have HR10 := Lib.hid (HR9.out.keeps0 hk10); have K10 := Lib.hid (K9.out.trans hk10); have HT10 := Lib.hid (HT9.out.keeps0 hk10); have HI10 := Lib.hid (HI9.out.keeps0 hk10); have HP10 := Lib.hid (HP9.out.keeps0 hk10)
              have hs10 := hk10.size
              clear hk10 HR9 K9 HT9 HI9 HP9 HN9
              by_cases hm : o.word.next e.to ∈ keysT T'
              · obtain ⟨kk, hkk⟩ := placeL_at ((mem_factsL HGK.out HGN.out).2 hm)
                have hkk2 : placeL (factsT T') (facts (o.word.next e.to)) = (kk : Int) := hkk
                rw [hkk2]
                have HM := Lib.hid hm
                clear hm hkk hkk2
                go_wp2_with fail
                go_roundw
                case rel => exact ⟨j + 1, ws1, ws2, by omega, by go_num, by rw [HSQ.out, HSN.out, if_pos HM.out], by rw [HSQ.out, HSN.out, if_pos HM.out]; exact HR10.out, K10.out⟩
                case measure => simp [intOf]; omega
              · have hpn : placeL (factsT T') (facts (o.word.next e.to)) = -1 := placeL_not (fun h => hm ((mem_factsL HGK.out HGN.out).1 h))
                rw [hpn]
                have HM := Lib.hid hm
                clear hm hpn
                have hb10 := (HB.out.keeps0 K10.out).lt
                obtain ⟨q0, q1, q2, q3⟩ := HB.out.keeps0 K10.out
                go_wp2_with fail
                refine (subset_any _ _ _ t.goal (facts (o.word.next e.to)) HT10.out.goal HI10.out).mono ?_; rintro en w11 ⟨rfl, rfl⟩
                rw [accW_sub OK.out HGN.out]
                cases hacc : accW (wd t.goal) (o.word.next e.to) with
                | true =>
                  have HAC := Lib.hid hacc
                  have hi2 : i < 2000 := by omega
                  clear hacc
                  go_wp2_with fail
                  refine bodyPost_ret (v := .tuple #[.slice (some ⟨gp, 0, none⟩) ((intsP e.path).length + 1) cp2, .bool true, .int .i64 ((i : Int) + 1)]) (by simp [results, Try.results36, go_sem]) rfl ?_
                  refine ⟨HK.out.trans K10.out, some (e.path ++ [j]), i + 1, _, ?_, rfl, HP10.out, fun k hk => ?_⟩
                  · refine NovRes.found i e (e.of ⟨j, o.word.cost, o.word.next e.to⟩) HA.out HNO.out (by rw [HNT.out]; exact HE.out) ?_
                    rw [HNT.out]
                    refine novL_some (l := stepsFrom 0 ((wordsOf t.ops).take (j + 1)) e.to) ?_ (stepsTo_prefix _ _ _)
                    rw [HSQ.out, HSN.out, if_neg HM.out, if_pos HAC.out]
                  · simp [Value.ownBlock] at hk
                    have h1 := HK.out.size
                    have h2 := HS6.out.1 g1 rfl
                    have h3 := (World.ownsRow.lt HR10.out.own1 g1 rfl).1
                    omega
                | false =>
                  have HAC := Lib.hid hacc
                  clear hacc q0 q1 q2 q3 hb10
                  go_wp2_with fail
                  refine (fresh_any (factsT T') (facts (o.word.next e.to)) n _ _ _ _ [] (by have h := HR10.out.lists1; exact h) HI10.out (Ints.nil _) (by simp; omega)).mono ?_; rintro en w11 ⟨rfl, hk11⟩
                  have hfr : freshL (factsT T') (facts (o.word.next e.to)) n [] = !covW n (o.word.next e.to) (keysT T') := fresh_word hn32 HGK.out HGN.out n
                  rw [hfr]
                  have HR11 := Lib.hid (HR10.out.keeps0 hk11); have K11 := Lib.hid (K10.out.trans hk11); have HI11 := Lib.hid (HI10.out.keeps0 hk11); have HP11 := Lib.hid (HP10.out.keeps0 hk11)
                  have hs11 := hk11.size
                  clear hfr hk11 HR10 K10 HT10 HI10 HP10
                  cases hcov : covW n (o.word.next e.to) (keysT T') with
                  | true =>
                    have HCV := Lib.hid hcov
                    clear hcov
                    go_wp2_with fail
                    go_roundw
                    case rel => exact ⟨j + 1, ws1, ws2, by omega, by go_num, by rw [HSQ.out, HSN.out, if_neg HM.out, if_neg (by rw [HAC.out]; decide), if_pos HCV.out], by rw [HSQ.out, HSN.out, if_neg HM.out, if_neg (by rw [HAC.out]; decide), if_pos HCV.out]; exact HR11.out, K11.out⟩
                    case measure => simp [intOf]; omega
                  | false =>
                    have HCV := Lib.hid hcov
                    clear hcov
                    have HO1 := Lib.hid (show w11.ownsRow w1.heap.size 22 1 (.slice (some ⟨g1, 0, none⟩) T'.length cap1) T'.length ws1 by have h := HR11.out.own1; rwa [factsT_len] at h)
                    have hs1 := K11.out.size
                    have hnb : 0 < (facts (o.word.next e.to)).length → ∀ k, (Value.slice an (facts (o.word.next e.to)).length cn).ownBlock = some k → (Value.slice (some ⟨g1, 0, none⟩) T'.length cap1).ownBlock ≠ some k ∧ (Value.slice (some ⟨g2, 0, none⟩) T'.length cap2).ownBlock ≠ some k := fun _ k hk =>
                      ⟨fun e' => by have h1 := HS6.out.1 k e'; have h2 := HNL.out k hk; omega, fun e' => by have h1 := HS6.out.2 k e'; have h2 := HNL.out k hk; omega⟩
                    have HNB := Lib.hid hnb
                    clear hnb
                    go_wp2_with (at_builtin; refine wpList_append_d rfl (.tmp 73) (.tmp 75) _ rfl w1.heap.size 22 j0 _ 1 24 Try.underlying33 hj0 jz0 jz1 jz2 rfl (by omega) _ T'.length ws1 (by rfl) (World.ownsRow.alloc HO1.out (.cells #[.slice an (facts (o.word.next e.to)).length cn] 22)) ⟨w11.heap.size, 0, none⟩ 1 1 [.slice an (facts (o.word.next e.to)).length cn] (by rfl) (by rfl) (World.news_of_block (cs := #[.slice an (facts (o.word.next e.to)).length cn]) (t := 22) (fr := (0, 0)) (heap_alloc_new _ _)) (by simp [Value.oneCell']) (by omega) (by unfold maxLen; omega) (by omega) (by simp; omega) (w11.heap.size + 1) (by simp) ?_)
                    intro g3 cap3 w12 hown12 hgrow12 hat12 hlt12 hd12
                    have hk12 : Keeps (fun k => (Value.slice (some ⟨g1, 0, none⟩) T'.length cap1).ownBlock = some k) w11 w12 := ((Keeps.refl _ w11).alloc _).grown hgrow12 (fun k hk => .inl hk)
                    have hg12 : ∀ k, (Value.slice (some ⟨g3, 0, none⟩) (T'.length + 1) cap3).ownBlock = some k → (Value.slice (some ⟨g1, 0, none⟩) T'.length cap1).ownBlock = some k ∨ w11.heap.size ≤ k := fun k hk => by
                      simp [Value.ownBlock] at hk
                      subst hk
                      rcases hat12 with h | h
                      · exact .inl h
                      · exact .inr (by omega)
                    have HR12 := Lib.hid (HR11.out.snoc1 HI11.out HNB.out hk12 (by rw [factsT_len]; exact hown12) hg12)
                    have hgp1 : ¬ ((Value.slice (some ⟨g1, 0, none⟩) T'.length cap1).ownBlock = some gp) := fun e' => by have := HS6.out.1 gp e'; omega
                    have HP12 := Lib.hid (HP11.out.keepsS hk12 (fun _ k hk e' => by simp [Value.ownBlock] at hk; subst hk; exact hgp1 e'))
                    have K12 := Lib.hid (K11.out.trans' hk12 (fun k hk => .inr (World.ownsRow.lt HO1.out k hk).1))
                    have hs12 := hk12.size
                    have HNB2 := Lib.hid (show 0 < (intsP (e.path ++ [j])).length → ∀ k, (Value.slice (some ⟨gp, 0, none⟩) ((intsP e.path).length + 1) cp2).ownBlock = some k → (Value.slice (some ⟨g2, 0, none⟩) T'.length cap2).ownBlock ≠ some k ∧ (Value.slice (some ⟨g3, 0, none⟩) (T'.length + 1) cap3).ownBlock ≠ some k from fun _ k hk => by
                      simp [Value.ownBlock] at hk
                      subst hk
                      refine ⟨fun e' => by have := HS6.out.2 gp e'; omega, fun e' => ?_⟩
                      rcases hg12 gp e' with h | h
                      · exact hgp1 h
                      · omega)
                    have HO2 := Lib.hid (show w12.ownsRow w1.heap.size 22 1 (.slice (some ⟨g2, 0, none⟩) T'.length cap2) T'.length ws2 by have h := HR12.out.own2; rwa [pathsT_len] at h)
                    clear hown12 hgrow12 hat12 hd12 hk12 hg12 HR11 K11 HI11 HP11 HO1 HNB hgp1
                    go_wp2_with (at_builtin; refine wpList_append_d rfl (.tmp 77) (.tmp 79) _ rfl w1.heap.size 22 j0 _ 1 24 Try.underlying33 hj0 jz0 jz1 jz2 rfl (by omega) _ T'.length ws2 (by rfl) (World.ownsRow.alloc HO2.out (.cells #[.slice (some ⟨gp, 0, none⟩) ((intsP e.path).length + 1) cp2] 22)) ⟨w12.heap.size, 0, none⟩ 1 1 [.slice (some ⟨gp, 0, none⟩) ((intsP e.path).length + 1) cp2] (by rfl) (by rfl) (World.news_of_block (cs := #[.slice (some ⟨gp, 0, none⟩) ((intsP e.path).length + 1) cp2]) (t := 22) (fr := (0, 0)) (heap_alloc_new _ _)) (by simp [Value.oneCell']) (by omega) (by unfold maxLen; omega) (by omega) (by simp; omega) (w12.heap.size + 1) (by simp) ?_)
                    intro g4 cap4 w13 hown13 hgrow13 hat13 hlt13 hd13
                    have hk13 : Keeps (fun k => (Value.slice (some ⟨g2, 0, none⟩) T'.length cap2).ownBlock = some k) w12 w13 := ((Keeps.refl _ w12).alloc _).grown hgrow13 (fun k hk => .inl hk)
                    have HR13 := Lib.hid (HR12.out.symm.snoc1 HP12.out HNB2.out hk13 (by rw [pathsT_len]; exact hown13) (fun k hk => by
                      simp [Value.ownBlock] at hk
                      subst hk
                      rcases hat13 with h | h
                      · exact .inl h
                      · exact .inr (by omega))).symm
                    have K13 := Lib.hid (K12.out.trans' hk13 (fun k hk => .inr (World.ownsRow.lt HO2.out k hk).1))
                    clear hown13 hgrow13 hat13 hd13 hk13 HR12 K12 HP12 HO2 HNB2
                    go_wp2_with fail
                    go_roundw
                    case rel => exact ⟨j + 1, ws1 ++ [.slice an (facts (o.word.next e.to)).length cn], ws2 ++ [.slice (some ⟨gp, 0, none⟩) ((intsP e.path).length + 1) cp2], by omega, by go_num, by rw [HSQ.out, HSN.out, if_neg HM.out, if_neg (by rw [HAC.out]; decide), if_neg (by rw [HCV.out]; decide)], by rw [HSQ.out, HSN.out, if_neg HM.out, if_neg (by rw [HAC.out]; decide), if_neg (by rw [HCV.out]; decide), factsT_snoc, pathsT_snoc]; exact HR13.out, K13.out⟩
                    case measure => simp [intOf]; omega
          · have hje : (wordsOf t.ops).take j = wordsOf t.ops := List.take_of_length_le (by unfold wordsOf; rw [List.length_map]; omega)
            have hst : stepsFrom 0 ((wordsOf t.ops).take j) e.to = wsteps (wordsOf t.ops) e.to := by rw [hje]; rfl
            have hnx : novT (accW (wd t.goal)) (covW n) (wordsOf t.ops) (wd t.init) (i + 1) = T' := by
              rw [novT_step (by rw [HNT.out]; exact HE.out), HNT.out, ← hst]; exact HT'.out
            have HNX := Lib.hid hnx
            have HNO2 : Hid (NovNo (accW (wd t.goal)) (covW n) (wordsOf t.ops) (wd t.init) (i + 1)) := by
              intro k f hk hf
              by_cases hki : k < i
              · exact HNO.out k f hki hf
              · have hk : k = i := by omega
                subst hk
                rw [HNT.out] at hf ⊢
                rw [HE.out] at hf; cases hf
                rw [← hst]; exact HNN.out
            clear hje hst hnx
            go_wp2_with fail
            go_roundw
            case rel => exact ⟨i + 1, ws1, ws2, by rw [HNX.out]; omega, HNO2.out, by go_num, by rw [HNX.out]; exact HR2.out, KQ.out⟩
            case measure => simp [intOf]; omega
      · have hie : i = T.length := by omega
        have HRES := Lib.hid (show NovRes (accW (wd t.goal)) (covW n) (wordsOf t.ops) (wd t.init) none T.length by
          have h := NovRes.none (acc := accW (wd t.goal)) (cov := covW n) i HA.out (by rw [HNT.out]; exact hie.symm) HNO.out
          rwa [← hie])
        clear hie
        go_wp2_with fail
        refine bodyPost_ret (v := .tuple #[.slice none 0 0, .bool false, .int .i64 (T.length : Int)]) (by simp [results, Try.results36, go_sem]) rfl ?_
        exact ⟨HK.out.trans KW.out, none, T.length, _, HRES.out, rfl, Ints.nil _, fun k hk => by simp [Value.ownBlock] at hk⟩

end Go.Proofs.Ytcfcmmajlkkabaa
