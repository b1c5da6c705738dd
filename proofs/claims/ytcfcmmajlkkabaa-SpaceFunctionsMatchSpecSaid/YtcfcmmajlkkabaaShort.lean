/- The reference's Shortest. -/
import Derived.Test.YtcfcmmajlkkabaaToGo
namespace Go.Proofs.Ytcfcmmajlkkabaa
open Go.RowKit

def cand (d : List Int) (f : Nat) (x : Int) (a : Arc) : Prop := a.frm = f ∧ d[a.to]? = some (x - 1)
/-- The place of the least candidate among the first j arcs, or -1. -/
def BestAt (A : List Arc) (d : List Int) (f : Nat) (x : Int) (j : Nat) (v : Value) : Prop :=
  (v = .int .i64 (-1) ∧ ∀ a ∈ A.take j, ¬ cand d f x a) ∨ (∃ (b : Nat) (a : Arc), v = .int .i64 (b : Int) ∧ A[b]? = some a ∧ cand d f x a ∧ ∀ c ∈ A.take j, cand d f x c → a.op ≤ c.op)

theorem BestAt.skip {A : List Arc} {d : List Int} {f : Nat} {x : Int} {j : Nat} {v : Value} {a : Arc} (h : BestAt A d f x j v) (ha : A[j]? = some a) (hn : ¬ cand d f x a) : BestAt A d f x (j + 1) v := by
  rcases h with ⟨h1, h2⟩ | ⟨b, a', h1, h2, h3, h4⟩
  · refine .inl ⟨h1, fun c hc => ?_⟩
    rw [take_getS ha] at hc
    rcases List.mem_append.1 hc with hc | hc
    · exact h2 c hc
    · simp at hc; subst hc; exact hn
  · refine .inr ⟨b, a', h1, h2, h3, fun c hc hcc => ?_⟩
    rw [take_getS ha] at hc
    rcases List.mem_append.1 hc with hc | hc
    · exact h4 c hc hcc
    · simp at hc; subst hc; exact absurd hcc hn
theorem BestAt.keep {A : List Arc} {d : List Int} {f : Nat} {x : Int} {j b : Nat} {a a' : Arc} (ha : A[j]? = some a) (hb : A[b]? = some a') (hc' : cand d f x a') (hall : ∀ c ∈ A.take j, cand d f x c → a'.op ≤ c.op) (hle : ¬ a.op < a'.op) : BestAt A d f x (j + 1) (.int .i64 (b : Int)) := by
  refine .inr ⟨b, a', rfl, hb, hc', fun c hc hcc => ?_⟩
  rw [take_getS ha] at hc
  rcases List.mem_append.1 hc with hc | hc
  · exact hall c hc hcc
  · simp at hc; subst hc; omega
theorem BestAt.take {A : List Arc} {d : List Int} {f : Nat} {x : Int} {j : Nat} {a : Arc} (ha : A[j]? = some a) (hc' : cand d f x a) (hall : ∀ c ∈ A.take j, cand d f x c → a.op ≤ c.op) : BestAt A d f x (j + 1) (.int .i64 (j : Int)) := by
  refine .inr ⟨j, a, rfl, ha, hc', fun c hc hcc => ?_⟩
  rw [take_getS ha] at hc
  rcases List.mem_append.1 hc with hc | hc
  · exact hall c hc hcc
  · simp at hc; subst hc; omega

structure ShortInv (w1 : World) (A : List Arc) (d : List Int) (f : Nat) (top : Int) (cur : Nat) (p : List Nat) (x : Int) (v9 : Value) (wr : World) : Prop where
  at_ : d[cur]? = some x
  pos : 0 ≤ x
  sum : (p.length : Int) + x = top
  ext : ∀ r, Greedy A d cur r → Greedy A d f (p ++ r)
  own : wr.ownsRow w1.heap.size 3 1 v9 p.length (p.map fun n : Nat => Value.int .i64 (n : Int))
  keeps : Keeps (fun _ => False) w1 wr

def ShortPost (w : World) (A : List Arc) (acc : List Bool) (f : Nat) (e : Ending) (w' : World) : Prop :=
  Keeps (fun _ => False) w w' ∧ ∃ d, GoOk A acc d ∧ ((∃ x, d[f]? = some x ∧ x < 0 ∧ e = .returned (.tuple #[.slice none 0 0, .bool false])) ∨
    (∃ l v, Greedy A d f l ∧ e = .returned (.tuple #[v, .bool true]) ∧ w'.ownsRow w.heap.size 3 1 v l.length (l.map fun n : Nat => Value.int .i64 (n : Int))))

set_option maxRecDepth 100000 in
set_option maxHeartbeats 4000000 in
theorem shortest_any (w : World) (va vb : Value) (A : List Arc) (acc : List Bool) (f : Nat) (ha : ArcsAt w va A) (hb : Bools w vb acc) (hn : acc.length ≤ 100000) (hA : ∀ a ∈ A, a.frm < acc.length ∧ a.to < acc.length) (hf : f < acc.length) :
    Calls Try.prog 20 #[va, vb, .int .i64 (f : Int)] w (ShortPost w A acc f) := by
  obtain ⟨i0, hi0, hz0, hz1, hz2⟩ := info_parts Try.info3
  obtain ⟨aa, ca, hva, ma⟩ := Sl.formN ha
  obtain ⟨ab, cb, hvb, mb⟩ := Sl.formN hb
  have HLT := Lib.hid hA; have HAA := Lib.hid ha; have HBB := Lib.hid hb
  subst hva hvb
  clear ha hb hA
  go_enter Try.func20, Try.ntmps20
  go_wp2_with fail
  refine (toGo_any _ _ _ A acc HAA.out HBB.out hn HLT.out).mono ?_; rintro e w1 ⟨v, d, rfl, hok, hown, hk⟩
  have OK := Lib.hid hok; have HD := Lib.hid hown; have K1 := Lib.hid hk
  have hdl := hok.len
  obtain ⟨ad, cd, hvd⟩ := ownsRow_form1 hown
  subst hvd
  obtain ⟨gd, capd, hvd, hg1, hg2⟩ := hown.form (by omega)
  simp only [Value.slice.injEq] at hvd
  obtain ⟨rfl, _, rfl⟩ := hvd
  have HCD := Lib.hid (show ∀ (i : Nat) (x : Int), d[i]? = some x → w1.cell? ⟨gd, i, none⟩ = some (.int .i64 x) from fun i x hx => by
    have := World.ownsRow.cells hown (g := gd) rfl i (.int .i64 x) (by rw [List.getElem?_map, hx]; rfl)
    have hadd : (⟨gd, 0, none⟩ : Addr).add i = ⟨gd, i, none⟩ := by unfold Addr.add; split <;> simp_all
    rwa [hadd] at this)
  have hs1 := hk.size
  have CA := Lib.hid (ArcsAt.cell (HAA.out.keeps0 hk) rfl)
  obtain ⟨x0, hx0⟩ : ∃ x, d[f]? = some x := ⟨_, List.getElem?_eq_getElem (by omega)⟩
  have hc0 := HCD.out f x0 hx0
  have HX0 := Lib.hid hx0
  have htop : x0 ≤ (acc.length : Int) := by
    have h1 := hok.hi x0 (List.mem_of_getElem? hx0)
    have h2 := known_le d
    omega
  have HDL := Lib.hid hdl
  clear hok hown hk hx0 hg1 hg2 hdl
  by_cases hneg : x0 < 0
  · go_wp2_with fail
    go_ret2
    exact ⟨K1.out, d, OK.out, .inl ⟨x0, HX0.out, hneg, rfl⟩⟩
  · go_wp2_with fail
    go_loopw [2, 9] (fun v2 v9 wr => ∃ cur p x, v2 = .int .i64 (cur : Nat) ∧ ShortInv w1 A d f x0 cur p x v9 wr) (fun v2 _ _ => (d.getD (intOf v2).toNat 0).toNat)
    case atStart => exact ⟨f, [], x0, rfl, HX0.out, by omega, by simp, fun r hr => hr, World.ownsRow_nil _ _ _ _, Keeps.refl _ _⟩
    case round =>
      obtain ⟨cur, p, x, rfl, hS⟩ := hrel
      have HS := Lib.hid hS
      have hsum := hS.sum
      have hx1 := hS.pos
      have hcx := hS.keeps.cell (HCD.out cur x hS.at_) (fun h => h)
      have hcl : cur < acc.length := by rw [← HDL.out]; exact (List.getElem?_eq_some_iff.1 hS.at_).1
      obtain ⟨a9, c9, h9⟩ := ownsRow_form1 hS.own
      subst h9
      have hgd : (d.getD cur 0) = x := by rw [List.getD_eq_getElem?_getD, hS.at_]; rfl
      have HGD := Lib.hid hgd
      clear hS hgd hc0
      by_cases hx0' : 0 < x
      · have hpl : p.length < 100000 := by omega
        clear hcx
        obtain ⟨w2, rfl⟩ : ∃ w2, w2 = wr := ⟨_, rfl⟩
        have hcx := HS.out.keeps.cell (HCD.out cur x HS.out.at_) (fun h => h)
        go_wp2_with fail
        go_loopw [10, 11] (fun v10 v11 wq => ∃ j : Nat, j ≤ A.length ∧ v11 = .int .i64 (j : Int) ∧ BestAt A d cur x j v10 ∧ Keeps (fun _ => False) w2 wq) (fun _ v11 _ => A.length - (intOf v11).toNat)
        case atStart => exact ⟨0, Nat.zero_le _, rfl, .inl ⟨rfl, by simp⟩, Keeps.refl _ _⟩
        case round =>
          obtain ⟨j, hj, rfl, hB, hkq⟩ := hrel
          have HB := Lib.hid hB; have KQ := Lib.hid hkq
          have KW := Lib.hid (HS.out.keeps.trans hkq)
          clear hB hkq hcx
          by_cases hjl : j < A.length
          · obtain ⟨ba, oa, rfl, hcell⟩ := CA.out (by omega)
            obtain ⟨a, ha⟩ : ∃ a, A[j]? = some a := ⟨_, List.getElem?_eq_getElem hjl⟩
            obtain ⟨g0, g1, g2, g3⟩ := hcell j a ha
            have c0 := KW.out.cell g0 (fun h => h)
            have c1 := KW.out.cell g1 (fun h => h)
            have c2 := KW.out.cell g2 (fun h => h)
            have c3 := KW.out.cell g3 (fun h => h)
            have HC := Lib.hid hcell
            have HA := Lib.hid ha
            obtain ⟨hfa, hta⟩ := HLT.out a (List.mem_of_getElem? ha)
            obtain ⟨y, hy⟩ : ∃ y, d[a.to]? = some y := ⟨_, List.getElem?_eq_getElem (by rw [HDL.out]; exact hta)⟩
            have HY := Lib.hid hy
            have KA := Lib.hid ((Keeps.refl (fun _ => False) wr).alloc (.cells #[.int .i64 (a.frm : Int), .int .i64 (a.to : Int), .int .i64 (a.op : Int), .int .i64 a.cost] 95))
            have F4 := Lib.hid (Four.new wr (.int .i64 (a.frm : Int)) (.int .i64 (a.to : Int)) (.int .i64 (a.op : Int)) (.int .i64 a.cost) 95)
            clear hcell g0 g1 g2 g3 ha hy
            go_upto_region 11 with fail
            obtain ⟨b9, hb9⟩ : ∃ b9, wr.heap.size = b9 := ⟨_, rfl⟩
            rw [hb9] at F4 ⊢
            clear c0 c1 c2 c3
            generalize (wr.alloc (.cells #[.int .i64 (a.frm : Int), .int .i64 (a.to : Int), .int .i64 (a.op : Int), .int .i64 a.cost] 95)) = w5 at KA F4 ⊢
            have KW5 := Lib.hid (KW.out.trans KA.out)
            have KQ5 := Lib.hid (KQ.out.trans KA.out)
            clear hb9
            have hl9 := F4.out.lt
            obtain ⟨f0, f1, f2, f3⟩ := F4.out
            have cy := KW5.out.cell (HCD.out a.to y HY.out) (fun h => h)
            have cx := KW5.out.cell (HCD.out cur x HS.out.at_) (fun h => h)
            have i0 : (0 : Int) ≤ (cur : Int) := by omega
            have i1 : (cur : Int) < (acc.length : Int) := by omega
            have b0 : (0 : Int) ≤ (a.to : Int) := by omega
            have b1 : (a.to : Int) < (acc.length : Int) := by omega
            by_cases hfc : a.frm = cur
            · have e1 : ((a.frm : Int) == (cur : Int)) = true := by simp [hfc]
              have hs : IntKind.i64.wrap (x - 1) = x - 1 := IntWalk.i64_in _ (by omega)
              by_cases hyx : y = x - 1
              · have e2 : (y == x - 1) = true := by simp [hyx]
                have hcand : cand d cur x a := ⟨hfc, by rw [HY.out, hyx]⟩
                have HCA := Lib.hid hcand
                clear hcand
                rcases HB.out with ⟨rfl, hnone⟩ | ⟨b, a', rfl, hb, hca', hall⟩
                · have HN := Lib.hid (BestAt.take HA.out HCA.out (fun c hc hcc => absurd hcc (hnone c hc)))
                  clear hnone hfc hyx
                  go_quiet (fail)
                  have KD := Lib.hid (KQ5.out.drewN nq)
                  generalize w5.drewN nq = w6 at KD ⊢
                  go_wp2_with fail
                  go_roundw
                  case rel => exact ⟨j + 1, by omega, by go_num, HN.out, KD.out⟩
                  case measure => simp [intOf]; omega
                · have hbl := (List.getElem?_eq_some_iff.1 hb).1
                  obtain ⟨g0, g1, g2, g3⟩ := HC.out b a' hb
                  have c2 := KW5.out.cell g2 (fun h => h)
                  have j0 : (0 : Int) ≤ (b : Int) := by omega
                  have j1 : (b : Int) < (A.length : Int) := by omega
                  have e3 : decide ((b : Int) < 0) = false := by simp
                  by_cases hop : a.op < a'.op
                  · have e4 : decide ((a.op : Int) < (a'.op : Int)) = true := by simpa using hop
                    have HN := Lib.hid (BestAt.take HA.out HCA.out (fun c hc hcc => by have := hall c hc hcc; omega))
                    clear hall hca' hb g0 g1 g2 g3 hfc hyx
                    go_quiet (fail)
                    have KD := Lib.hid (KQ5.out.drewN nq)
                    generalize w5.drewN nq = w6 at KD ⊢
                    go_wp2_with fail
                    go_roundw
                    case rel => exact ⟨j + 1, by omega, by go_num, HN.out, KD.out⟩
                    case measure => simp [intOf]; omega
                  · have e4 : decide ((a.op : Int) < (a'.op : Int)) = false := by simpa using hop
                    have HN := Lib.hid (BestAt.keep HA.out hb hca' hall hop)
                    clear hall hca' hb g0 g1 g2 g3 hfc hyx
                    go_quiet (fail)
                    have KD := Lib.hid (KQ5.out.drewN nq)
                    generalize w5.drewN nq = w6 at KD ⊢
                    go_wp2_with fail
                    go_roundw
                    case rel => exact ⟨j + 1, by omega, by go_num, HN.out, KD.out⟩
                    case measure => simp [intOf]; omega
              · have e2 : (y == x - 1) = false := by simp [hyx]
                have HN := Lib.hid (HB.out.skip HA.out (fun h => hyx (by have := h.2; rw [HY.out] at this; simpa using this)))
                clear hyx hfc
                go_quiet (fail)
                have KD := Lib.hid (KQ5.out.drewN nq)
                generalize w5.drewN nq = w6 at KD ⊢
                go_wp2_with fail
                go_roundw
                case rel => exact ⟨j + 1, by omega, by go_num, HN.out, KD.out⟩
                case measure => simp [intOf]; omega
            · have e1 : ((a.frm : Int) == (cur : Int)) = false := by simp; omega
              have HN := Lib.hid (HB.out.skip HA.out (fun h => hfc h.1))
              clear hfc
              go_quiet (fail)
              have KD := Lib.hid (KQ5.out.drewN nq)
              generalize w5.drewN nq = w6 at KD ⊢
              go_wp2_with fail
              go_roundw
              case rel => exact ⟨j + 1, by omega, by go_num, HN.out, KD.out⟩
              case measure => simp [intOf]; omega
          · have htk : A.take j = A := List.take_of_length_le (by omega)
            obtain ⟨b, a, rfl, hb, hca, hall⟩ : ∃ (b : Nat) (a : Arc), u10 = .int .i64 (b : Int) ∧ A[b]? = some a ∧ cand d cur x a ∧ ∀ c ∈ A, cand d cur x c → a.op ≤ c.op := by
              rcases HB.out with ⟨_, hnone⟩ | ⟨b, a, h1, h2, h3, h4⟩
              · obtain ⟨a, ha, h1, h2⟩ := OK.out.next HS.out.at_ hx0'
                rw [htk] at hnone
                exact absurd ⟨h1, h2⟩ (hnone a ha)
              · rw [htk] at h4; exact ⟨b, a, h1, h2, h3, h4⟩
            have hbl := (List.getElem?_eq_some_iff.1 hb).1
            obtain ⟨ba, oa, rfl, hcell⟩ := CA.out (by omega)
            obtain ⟨g0, g1, g2, g3⟩ := hcell b a hb
            have c2 := KW.out.cell g2 (fun h => h)
            have HG1 := Lib.hid g1
            have hsw := KW.out.size
            have HOW := Lib.hid (KQ.out.ownsRow HS.out.own (fun _ _ h => h))
            have HEXT := Lib.hid (show ∀ r, Greedy A d a.to r → Greedy A d f ((p ++ [a.op]) ++ r) from fun r hr => by
              rw [List.append_assoc, List.singleton_append]
              refine HS.out.ext _ ?_
              obtain ⟨hca1, hca2⟩ := hca
              subst hca1
              exact .cons (List.mem_of_getElem? hb) HS.out.at_ hx0' hca2 (fun c hc h1 h2 => hall c hc ⟨h1, h2⟩) hr)
            have HAT := Lib.hid hca.2
            have HGN := Lib.hid (show d.getD a.to 0 = x - 1 by rw [List.getD_eq_getElem?_getD, hca.2]; rfl)
            clear g0 g1 g2 g3 hcell hall hca hb htk
            go_wp2_with (at_builtin; refine wpList_append_d rfl _ _ _ rfl w1.heap.size 3 i0 _ 1 8 Try.underlying22 hi0 hz0 hz1 hz2 rfl (by omega) _ p.length (p.map fun n : Nat => Value.int .i64 (n : Int)) (by rfl) (World.ownsRow.alloc HOW.out (.cells #[.int .i64 (a.op : Int)] 3)) ⟨wr.heap.size, 0, none⟩ 1 1 [.int .i64 (a.op : Int)] (by rfl) (by rfl) ?hnews ?hone (by omega) (by unfold maxLen; omega) (by omega) (by simp; omega) (wr.heap.size + 1) (by simp) ?_)
            case hnews => exact World.news_of_block (cs := #[.int .i64 (a.op : Int)]) (t := 3) (fr := (0, 0)) (heap_alloc_new _ _)
            case hone => simp [Value.oneCell']
            intro gg cap2 w6 hown hgrow hat hlt6 hd6
            have hk6 := own_grown HOW.out KW.out ((Keeps.refl _ wr).alloc (.cells #[.int .i64 (a.op : Int)] 3)) hgrow
            have HN := Lib.hid (show ShortInv w1 A d f x0 a.to (p ++ [a.op]) (x - 1) (.slice (some ⟨gg, 0, none⟩) (p.length + 1) cap2) w6 from ⟨HAT.out, by omega, by rw [List.length_append, List.length_singleton]; omega, HEXT.out, by rw [List.length_append, List.map_append]; exact hown, hk6⟩)
            have c1 := hk6.cell HG1.out (fun h => h)
            clear hown hgrow hat hd6 hk6
            go_wp2_with fail
            go_roundw
            case rel => exact ⟨a.to, p ++ [a.op], x - 1, rfl, HN.out⟩
            case measure =>
              have h1 := HGN.out
              have h2 := HGD.out
              simp only [intOf, Int.toNat_natCast, h1, h2]
              omega
      · have hxz : x = 0 := by omega
        have HGR := Lib.hid (show Greedy A d f p by
          have := HS.out.ext [] (.nil (by rw [HS.out.at_, hxz]))
          rwa [List.append_nil] at this)
        clear hxz
        go_wp2_with fail
        go_ret2
        exact ⟨K1.out.trans HS.out.keeps, d, OK.out, .inr ⟨p, _, HGR.out, rfl, ownsRow_mono HS.out.own hs1⟩⟩

end Go.Proofs.Ytcfcmmajlkkabaa
