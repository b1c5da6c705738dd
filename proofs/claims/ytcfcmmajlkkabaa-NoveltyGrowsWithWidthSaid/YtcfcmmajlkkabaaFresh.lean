/- The reference's Copy and Fresh. -/
import Derived.Test.YtcfcmmajlkkabaaCover
import Derived.Test.YtcfcmmajlkkabaaLists
import Derived.Deep.Upon
import Derived.IntWalk
namespace Go.Proofs.Ytcfcmmajlkkabaa
open Go.RowKit

theorem run_append_zero {P : Program} (w : World) (t ty e : TypeId) (i : TypeInfo) (ht : P.underlying t = some (.slice e)) (hi : P.info? e = some i) (ao : Option Addr) (c : Nat) :
    (Builtin.append_ #[t, t] ty #[.slice none 0 0, .slice ao 0 c]).run P w = .ok (.slice none 0 0) w := by
  cases ao with
  | none => exact run_append_nothing w t t ty e i ht hi none 0 0 (Nat.le_refl _) _ (Src.ofNil w ht c)
  | some a => exact run_append_nothing w t t ty e i ht hi none 0 0 (Nat.le_refl _) _ (Src.ofSlice w ht a 0 c [] (by simp) (fun _ _ h => by simp at h) (fun _ h => by cases h))

theorem wpList_append_zero {P : Program} {w : World} {ops : Array Oper} {rest : List Oper} {o : Oper} {a : Act} {Q : Exit → Act → World → Prop} (hgd : o.guard = none) (s x : Operand) (t : TypeId)
    (ho : o.op = .call { callee := .builtin .append, args := #[s, x], argTypes := #[t, t] }) (e : TypeId) (i : TypeInfo) (ht : P.underlying t = some (.slice e)) (hi : P.info? e = some i)
    (hs : a.eval s = .slice none 0 0) (ao : Option Addr) (c : Nat) (hx : a.eval x = .slice ao 0 c) (h : wpList P ops Q rest (a.put o.dst (.slice none 0 0)) w) : wpList P ops Q (o :: rest) a w :=
  wpList_plain hgd fun K hK => by
    have hr := run_append_zero (P := P) w t o.type e i ht hi ao c
    unfold Oper.wp execOp
    simp only [ho, resolve, invoke, builtin, Sem.run_bind, Sem.run_pure, Result.andThen_ok, List.map_toArray, List.map_cons, List.map_nil, hs, hx, hr]
    exact hK _ _ h

set_option maxRecDepth 100000 in
theorem copy_any (w : World) (v : Value) (l : List Int) (h : Ints w v l) (hl : l.length ≤ 1000000) :
    Calls Try.prog 74 #[v] w fun e w' => ∃ v', e = .returned v' ∧ w'.ownsRow w.heap.size 3 1 v' l.length (l.map (Value.int .i64)) ∧ Keeps (fun _ => False) w w' := by
  obtain ⟨i0, hi0, hz0, hz1, hz2⟩ := info_parts Try.info3
  obtain ⟨ao, ca, hv, ma⟩ := h.form
  have CA := Lib.hid (h.cell hv)
  subst hv
  clear h
  cases l with
  | nil =>
    show Calls Try.prog 74 #[.slice ao 0 ca] w _
    go_enter Try.func74, Try.ntmps74
    go_wp2_with (at_builtin; refine wpList_append_zero rfl _ _ _ rfl 3 i0 Try.underlying22 hi0 rfl ao ca rfl ?_)
    go_wp2_with fail
    go_ret
    exact ⟨_, rfl, World.ownsRow_nil _ _ _ _, Keeps.refl _ _⟩
  | cons x r =>
    obtain ⟨b, off, rfl, hcell⟩ := CA.out (by simp)
    generalize hL : x :: r = l at hl ma hcell CA ⊢
    have hpos : 0 < l.length := by rw [← hL]; simp
    clear hL
    go_enter Try.func74, Try.ntmps74
    go_wp2_with (at_builtin; refine wpList_append_d rfl _ _ _ rfl w.heap.size 3 i0 _ 1 8 Try.underlying22 hi0 hz0 hz1 hz2 rfl (by omega) _ 0 [] (by rfl) (World.ownsRow_nil _ _ _ _) ⟨b, off, none⟩ l.length ca (l.map (Value.int .i64)) (by rfl) (by simp) ?hnews ?hone hpos (by unfold maxLen; omega) (by omega) (by omega) w.heap.size rfl ?_)
    case hnews =>
      intro j u hj
      rw [List.getElem?_map] at hj
      cases hx : l[j]? with
      | none => rw [hx] at hj; cases hj
      | some y =>
        rw [hx] at hj; cases hj
        have hadd : (⟨b, off, none⟩ : Addr).add j = ⟨b, off + j, none⟩ := by unfold Addr.add; split <;> simp_all
        rw [hadd]; exact hcell j y hx
    case hone => intro u hu; obtain ⟨y, _, rfl⟩ := List.mem_map.1 hu; rfl
    intro gg cap2 w4 hown hgrow hat hlt4 hd4
    have HO := Lib.hid hown
    have HK := Lib.hid ((Keeps.refl (fun _ => False) w).grown hgrow (fun k hk => by simp [Value.ownBlock] at hk))
    clear hown hgrow hat hd4 hcell
    go_wp2_with fail
    go_ret
    exact ⟨_, rfl, by simpa using HO.out, HK.out⟩

theorem occurs_take {ls : List (List Int)} {ch : List Int} {k : Nat} {l : List Int} (hl : ls[k]? = some l) : occurs (ls.take (k + 1)) ch = (occurs (ls.take k) ch || subB ch l) := by
  unfold occurs
  rw [take_getS hl, List.any_append]
  simp [subB]

theorem ints_snoc {w : World} {base : Nat} {v : Value} {ch : List Int} {y : Int} (h : w.ownsRow base 3 1 v (ch.length + 1) (ch.map (Value.int .i64) ++ [.int .i64 y])) : Ints w v (ch ++ [y]) := by
  refine Ints.of_own (base := base) (e := 3) ?_
  rw [List.length_append, List.map_append]
  exact h

def FreshPost (ls : List (List Int)) (s : List Int) (n : Nat) (ch : List Int) (w : World) (e : Ending) (w' : World) : Prop := e = .returned (.bool (freshL ls s n ch)) ∧ Keeps (fun _ => False) w w'

set_option maxRecDepth 100000 in
set_option maxHeartbeats 4000000 in
theorem fresh_any (ls : List (List Int)) (s : List Int) : ∀ (n : Nat) (w : World) (vl vs vc : Value) (ch : List Int), Lists w vl ls → Ints w vs s → Ints w vc ch → ch.length + n ≤ 1000 →
    Calls Try.prog 41 #[vl, vs, vc, .int .i64 (n : Int)] w (FreshPost ls s n ch w) := by
  obtain ⟨i0, hi0, hz0, hz1, hz2⟩ := info_parts Try.info3
  intro n
  induction n with
  | zero =>
    intro w vl vs vc ch hl hs hc hn
    show Calls Try.prog 41 #[vl, vs, vc, .int .i64 0] w _
    obtain ⟨al, cl, h1, _⟩ := hl.form
    obtain ⟨as', cs, h2, _⟩ := hs.form
    obtain ⟨ac, cc, h3, _⟩ := hc.form
    have CL := Lib.hid (hl.cell h1)
    subst h1 h2 h3
    have HC := Lib.hid hc
    clear hl hs hc
    go_enter Try.func41, Try.ntmps41
    go_wp2_with fail
    go_loop [9, 10] (fun v9 v10 => ∃ k : Nat, k ≤ ls.length ∧ v10 = .int .i64 (k : Int) ∧ v9 = .bool (occurs (ls.take k) ch)) (fun _ v10 => ls.length - (intOf v10).toNat)
    case atStart => exact ⟨0, Nat.zero_le _, rfl, rfl⟩
    case round =>
      obtain ⟨k, hk, rfl, rfl⟩ := hrel
      by_cases hlt : k < ls.length
      · obtain ⟨bl, ol, rfl, hcell⟩ := CL.out (by omega)
        obtain ⟨l, hl⟩ : ∃ l, ls[k]? = some l := ⟨_, List.getElem?_eq_getElem hlt⟩
        obtain ⟨u, hu, hiu⟩ := hcell k l hl
        have HT := Lib.hid (occurs_take (ch := ch) hl)
        have HIU := Lib.hid hiu
        obtain ⟨au, cu, hfu, _⟩ := hiu.form
        subst hfu
        clear hcell hl hiu
        cases ho : occurs (ls.take k) ch with
        | true =>
          have HN := Lib.hid (show occurs (ls.take (k + 1)) ch = true by rw [HT.out, ho]; rfl)
          clear ho
          go_wp2_with fail
          go_round
          case rel => exact ⟨k + 1, by omega, by go_num, by rw [HN.out]⟩
          case measure => simp [intOf]; omega
        | false =>
          have HN := Lib.hid (show occurs (ls.take (k + 1)) ch = subB ch l by rw [HT.out, ho]; rfl)
          clear ho
          go_wp2_with fail
          refine (subset_any _ _ _ _ _ HC.out HIU.out).mono ?_; rintro e w1 ⟨rfl, rfl⟩
          rw [← HN.out]
          go_wp2_with fail
          go_round
          case rel => exact ⟨k + 1, by omega, by go_num, rfl⟩
          case measure => simp [intOf]; omega
      · have HE : Hid (ls.take k = ls) := by unfold Hid; exact List.take_of_length_le (by omega)
        rw [HE.out]
        cases ho : occurs ls ch with
        | true =>
          have HR := Lib.hid (show freshL ls s 0 ch = false by unfold freshL; rw [ho]; rfl)
          clear ho
          go_wp2_with fail
          go_ret
          exact ⟨congrArg (fun b => Ending.returned (Value.bool b)) HR.out.symm, Keeps.refl _ _⟩
        | false =>
          have HR := Lib.hid (show freshL ls s 0 ch = true by unfold freshL; rw [ho]; rfl)
          clear ho
          go_wp2_with fail
          go_ret
          exact ⟨congrArg (fun b => Ending.returned (Value.bool b)) HR.out.symm, Keeps.refl _ _⟩
  | succ n ih =>
    intro w vl vs vc ch hl hs hc hn
    rw [show ((n + 1 : Nat) : Int) = (n : Int) + 1 from by simp]
    obtain ⟨al, cl, h1, _⟩ := hl.form
    obtain ⟨as', cs, h2, hsm⟩ := hs.form
    obtain ⟨ac, cc, h3, hcm⟩ := hc.form
    have CL := Lib.hid (hl.cell h1)
    have CS := Lib.hid (hs.cell h2)
    have CC := Lib.hid (hc.cell h3)
    subst h1 h2 h3
    have HC := Lib.hid hc; have HL := Lib.hid hl; have HS := Lib.hid hs; have IH := Lib.hid ih
    clear hl hs hc ih
    go_enter Try.func41, Try.ntmps41
    go_wp2_with fail
    go_loop [9, 10] (fun v9 v10 => ∃ k : Nat, k ≤ ls.length ∧ v10 = .int .i64 (k : Int) ∧ v9 = .bool (occurs (ls.take k) ch)) (fun _ v10 => ls.length - (intOf v10).toNat)
    case atStart => exact ⟨0, Nat.zero_le _, rfl, rfl⟩
    case round =>
      obtain ⟨k, hk, rfl, rfl⟩ := hrel
      by_cases hlt : k < ls.length
      · obtain ⟨bl, ol, rfl, hcell⟩ := CL.out (by omega)
        obtain ⟨l, hl⟩ : ∃ l, ls[k]? = some l := ⟨_, List.getElem?_eq_getElem hlt⟩
        obtain ⟨u, hu, hiu⟩ := hcell k l hl
        have HT := Lib.hid (occurs_take (ch := ch) hl)
        have HIU := Lib.hid hiu
        obtain ⟨au, cu, hfu, _⟩ := hiu.form
        subst hfu
        clear hcell hl hiu
        cases ho : occurs (ls.take k) ch with
        | true =>
          have HN := Lib.hid (show occurs (ls.take (k + 1)) ch = true by rw [HT.out, ho]; rfl)
          clear ho
          go_wp2_with fail
          go_round
          case rel => exact ⟨k + 1, by omega, by go_num, by rw [HN.out]⟩
          case measure => simp [intOf]; omega
        | false =>
          have HN := Lib.hid (show occurs (ls.take (k + 1)) ch = subB ch l by rw [HT.out, ho]; rfl)
          clear ho
          go_wp2_with fail
          refine (subset_any _ _ _ _ _ HC.out HIU.out).mono ?_; rintro e w1 ⟨rfl, rfl⟩
          rw [← HN.out]
          go_wp2_with fail
          go_round
          case rel => exact ⟨k + 1, by omega, by go_num, rfl⟩
          case measure => simp [intOf]; omega
      · have HE : Hid (ls.take k = ls) := by unfold Hid; exact List.take_of_length_le (by omega)
        rw [HE.out]
        cases ho : occurs ls ch with
        | false =>
          have HR := Lib.hid (show freshL ls s (n + 1) ch = true by unfold freshL; rw [ho]; rfl)
          clear ho
          go_wp2_with fail
          go_ret
          exact ⟨congrArg (fun b => Ending.returned (Value.bool b)) HR.out.symm, Keeps.refl _ _⟩
        | true =>
          have HR := Lib.hid (show freshL ls s (n + 1) ch = s.any (fun y => after ch y && freshL ls s n (ch ++ [y])) by rw [freshL, ho]; rfl)
          clear ho
          go_wp2_with fail
          go_loopw [11] (fun v11 wr => ∃ j : Nat, j ≤ s.length ∧ v11 = .int .i64 (j : Int) ∧ (∀ y ∈ s.take j, (after ch y && freshL ls s n (ch ++ [y])) = false) ∧ Keeps (fun _ => False) w wr) (fun v11 _ => s.length - (intOf v11).toNat)
          case atStart => exact ⟨0, Nat.zero_le _, rfl, by simp, Keeps.refl _ _⟩
          case round =>
            obtain ⟨j, hj, rfl, hall, hkw⟩ := hrel
            have HALL := Lib.hid hall; have KW := Lib.hid hkw
            clear hall hkw
            by_cases hjl : j < s.length
            · obtain ⟨bs, os, rfl, hcell⟩ := CS.out (by omega)
              obtain ⟨y, hy⟩ : ∃ y, s[j]? = some y := ⟨_, List.getElem?_eq_getElem hjl⟩
              have hyc := KW.out.cell (hcell j y hy) (fun h => h)
              have HY := Lib.hid hy
              have j0 : (0 : Int) ≤ (j : Int) := by omega
              have j1 : (j : Int) < (s.length : Int) := by omega
              have hsub : IntKind.i64.wrap (n : Int) = (n : Int) := IntWalk.i64_in _ (by omega)
              clear hcell hy
              cases ha : after ch y with
              | false =>
                obtain ⟨z, hz, hzy⟩ : ∃ z, ch[ch.length - 1]? = some z ∧ ¬ z < y := by
                  unfold after at ha
                  cases hl : ch.getLast? with
                  | none => rw [hl] at ha; cases ha
                  | some z => rw [hl] at ha; exact ⟨z, by rw [← List.getLast?_eq_getElem?]; exact hl, by simpa using ha⟩
                have hcl := (List.getElem?_eq_some_iff.1 hz).1
                obtain ⟨bc, oc, rfl, hcc⟩ := CC.out (by omega)
                have hzc := KW.out.cell (hcc _ z hz) (fun h => h)
                have hq : ((ch.length : Int) == 0) = false := by rw [beq_eq_false_iff_ne]; omega
                have hw1 : IntKind.i64.wrap ((ch.length : Int) - 1) = (ch.length : Int) - 1 := IntWalk.i64_in _ (by omega)
                have hw2 : ((ch.length : Int) - 1).toNat = ch.length - 1 := by omega
                have hw3 : (0 : Int) ≤ (ch.length : Int) - 1 := by omega
                have hw4 : (ch.length : Int) - 1 < (ch.length : Int) := by omega
                have hd : decide (z < y) = false := by simpa using hzy
                have HN := Lib.hid (show (after ch y && freshL ls s n (ch ++ [y])) = false by rw [ha]; rfl)
                clear ha hcc hz hzy hcl
                go_wp2_with fail
                go_quiet (fail)
                have KD := Lib.hid (KW.out.drewN nq)
                generalize wr.drewN nq = w6 at KD ⊢
                go_wp2_with fail
                go_roundw
                case rel => exact ⟨j + 1, by omega, by go_num, fun x hx => by
                  rw [take_getS HY.out] at hx
                  rcases List.mem_append.1 hx with hx | hx
                  · exact HALL.out x hx
                  · simp at hx; subst hx; exact HN.out, KD.out⟩
                case measure => simp [intOf]; omega
              | true =>
                have HAF := Lib.hid ha
                by_cases hc0 : ch.length = 0
                case' pos =>
                  have hq : ((ch.length : Int) == 0) = true := by rw [beq_iff_eq]; omega
                  clear ha hc0
                  go_wp2_with fail
                  go_quiet (fail)
                case' neg =>
                  obtain ⟨z, hz, hzy⟩ : ∃ z, ch[ch.length - 1]? = some z ∧ z < y := by
                    unfold after at ha
                    cases hl : ch.getLast? with
                    | none => rw [List.getLast?_eq_none_iff] at hl; subst hl; exact absurd rfl hc0
                    | some z => rw [hl] at ha; exact ⟨z, by rw [← List.getLast?_eq_getElem?]; exact hl, by simpa using ha⟩
                  obtain ⟨bc, oc, rfl, hcc⟩ := CC.out (by omega)
                  have hzc := KW.out.cell (hcc _ z hz) (fun h => h)
                  have hq : ((ch.length : Int) == 0) = false := by rw [beq_eq_false_iff_ne]; omega
                  have hw1 : IntKind.i64.wrap ((ch.length : Int) - 1) = (ch.length : Int) - 1 := IntWalk.i64_in _ (by omega)
                  have hw2 : ((ch.length : Int) - 1).toNat = ch.length - 1 := by omega
                  have hw3 : (0 : Int) ≤ (ch.length : Int) - 1 := by omega
                  have hw4 : (ch.length : Int) - 1 < (ch.length : Int) := by omega
                  have hd : decide (z < y) = true := by simpa using hzy
                  clear ha hcc hz hzy hc0
                  go_wp2_with fail
                  go_quiet (fail)
                  clear hzc hw1 hw2 hw3 hw4 hd
                all_goals
                  have hyc2 : (wr.drewN nq).cell? ⟨bs, os + j, none⟩ = some (.int .i64 y) := hyc
                  have KD := Lib.hid (KW.out.drewN nq)
                  clear hyc
                  generalize wr.drewN nq = w6 at KD hyc2 ⊢
                  go_wp2_with fail
                  have KDD := KD.out.drew
                  have HC6 := Lib.hid (HC.out.keeps0 KDD); have HL6 := Lib.hid (HL.out.keeps0 KDD); have HS6 := Lib.hid (HS.out.keeps0 KDD)
                  have hs6 := KDD.size
                  have K6 := Lib.hid KDD
                  clear KDD
                  have K6B := Lib.hid ((KD.out.alloc (.cells #[.int .i64 y] 3)).drew)
                  have HC6B := Lib.hid (HC.out.keeps0 K6B.out)
                  have HNB := Lib.hid (show ((w6.alloc (.cells #[.int .i64 y] 3)).drew).heap[w6.heap.size]? = some (.cells #[.int .i64 y] 3 (0, 0)) from heap_alloc_new w6 _)
                  go_region_law (first | (refine step_append_lies _ (by rfl) _ _ _ (by rfl) w.heap.size 3 i0 _ 1 8 Try.underlying22 hi0 hz0 hz1 hz2 rfl (by omega) _ ch.length (ch.map (Value.int .i64)) (by rfl) (World.ownsRow.alloc HO2.out (.cells #[.int .i64 y] 3)) ⟨w2.heap.size, 0, none⟩ 1 1 [.int .i64 y] (by rfl) (by rfl) (World.news_of_block (cs := #[.int .i64 y]) (t := 3) (fr := (0, 0)) (heap_alloc_new w2 _)) (by simp [Value.oneCell']) (by omega) (by unfold maxLen; omega) (by omega) (by simp; omega) (w2.heap.size + 1) (by simp) ?_; intro gg cap2 w3 hown3 hgrow3 hat3 hlt3; have K3 := Lib.hid (own_grown HO2.out K2.out ((Keeps.refl _ w2).alloc (.cells #[.int .i64 y] 3)) hgrow3); have HCH := Lib.hid (ints_snoc hown3); have HL3 := Lib.hid (HL.out.keeps0 K3.out); have HS3 := Lib.hid (HS.out.keeps0 K3.out); clear hown3 hgrow3 hat3) | (refine step_append_lies _ (by rfl) _ _ _ (by rfl) w.heap.size 3 i0 _ 1 8 Try.underlying22 hi0 hz0 hz1 hz2 rfl (by omega) _ ch.length (ch.map (Value.int .i64)) (by rfl) HO2.out ⟨w6.heap.size, 0, none⟩ 1 1 [.int .i64 y] (by rfl) (by rfl) (World.news_of_block (cs := #[.int .i64 y]) (t := 3) (fr := (0, 0)) HNEW.out) (by simp [Value.oneCell']) (by omega) (by unfold maxLen; omega) (by omega) (by omega) w2.heap.size rfl ?_; intro gg cap2 w3 hown3 hgrow3 hat3 hlt3; have K3 := Lib.hid (own_grown HO2.out K2.out (Keeps.refl _ w2) hgrow3); have HCH := Lib.hid (ints_snoc hown3); have HL3 := Lib.hid (HL.out.keeps0 K3.out); have HS3 := Lib.hid (HS.out.keeps0 K3.out); clear hown3 hgrow3 hat3) | (go_simp; go_at_call 41; refine (IH.out w3 _ _ _ (ch ++ [y]) HL3.out HS3.out HCH.out (by (rw [List.length_append, List.length_singleton]; omega))).mono ?_; rintro e w4 ⟨rfl, hk4⟩; have K4 := Lib.hid (K3.out.trans hk4); clear hk4) | (go_simp; go_at_call 74; refine (copy_any w6.drew _ ch HC6.out (by omega)).mono ?_; rintro e w2 ⟨v2, rfl, hown2, hk2⟩; obtain ⟨a2, c2, h2⟩ := ownsRow_form1 hown2; subst h2; have HO2 := Lib.hid (ownsRow_mono hown2 hs6); have K2 := Lib.hid (K6.out.trans hk2); have hs2 := K2.out.size; have hyc3 := hk2.cell (show w6.drew.cell? ⟨bs, os + j, none⟩ = some (.int .i64 y) from hyc2) (fun h => h); clear hown2 hk2) | (go_simp; go_at_call 74; refine (copy_any (w6.alloc (.cells #[.int .i64 y] 3)).drew _ ch HC6B.out (by omega)).mono ?_; rintro e w2 ⟨v2, rfl, hown2, hk2⟩; obtain ⟨a2, c2, h2⟩ := ownsRow_form1 hown2; subst h2; have HO2 := Lib.hid (ownsRow_mono hown2 K6B.out.size); have K2 := Lib.hid (K6B.out.trans hk2); have hs2 := K2.out.size; have HNEW := Lib.hid (hk2.heap HNB.out (fun h => h)); clear hown2 hk2))
                  all_goals
                    clear hsub
                    cases hf : freshL ls s n (ch ++ [y]) with
                    | true =>
                      have HR2 := Lib.hid (show freshL ls s (n + 1) ch = true by
                        rw [HR.out, List.any_eq_true]
                        exact ⟨y, List.mem_of_getElem? HY.out, by rw [HAF.out, hf]; rfl⟩)
                      clear hf
                      go_wp2_with fail
                      go_ret
                      exact ⟨congrArg (fun b => Ending.returned (Value.bool b)) HR2.out.symm, K4.out⟩
                    | false =>
                      have HN := Lib.hid (show (after ch y && freshL ls s n (ch ++ [y])) = false by rw [hf, Bool.and_false])
                      clear hf
                      go_wp2_with fail
                      go_roundw
                      case rel => exact ⟨j + 1, by omega, by go_num, fun x hx => by
                        rw [take_getS HY.out] at hx
                        rcases List.mem_append.1 hx with hx | hx
                        · exact HALL.out x hx
                        · simp at hx; subst hx; exact HN.out, K4.out⟩
                      case measure => simp [intOf]; omega
            · have HR2 := Lib.hid (show freshL ls s (n + 1) ch = false by
                rw [HR.out, List.any_eq_false]
                have h := HALL.out
                rw [List.take_of_length_le (by omega)] at h
                intro y hy; rw [h y hy]; simp)
              go_wp2_with fail
              go_ret
              exact ⟨congrArg (fun b => Ending.returned (Value.bool b)) HR2.out.symm, KW.out⟩

end Go.Proofs.Ytcfcmmajlkkabaa
