/- The reference's Less and States; the laws' lists. -/
import Derived.Test.YtcfcmmajlkkabaaSmall
import Derived.Test.YtcfcmmajlkkabaaSort
import Derived.IntWalk
namespace Go.Proofs.Ytcfcmmajlkkabaa
open Go.RowKit

def lessL (a b : List Int) : Bool := decide (cmpL a b < 0)

set_option maxRecDepth 100000 in
set_option maxHeartbeats 2000000 in
theorem less_any (w : World) (va vb : Value) (a b : List Int) (ha : Ints w va a) (hb : Ints w vb b) :
    Calls Try.prog 81 #[va, vb] w fun e w' => e = .returned (.bool (lessL a b)) ∧ ∃ n, w' = w.drewN n := by
  obtain ⟨ao, ca, hva, ma⟩ := ha.form
  obtain ⟨bo, cb, hvb, mb⟩ := hb.form
  have CA := Lib.hid (ha.cell hva)
  have CB := Lib.hid (hb.cell hvb)
  subst hva hvb
  clear ha hb
  go_enter Try.func81, Try.ntmps81
  go_wp2_with fail
  go_loopw [5] (fun i wr => ∃ k : Nat, k ≤ a.length ∧ k ≤ b.length ∧ i = .int .i64 (k : Int) ∧ cmpL a b = cmpL (a.drop k) (b.drop k) ∧ ∃ nd, wr = w.drewN nd) (fun i _ => a.length - (intOf i).toNat)
  case atStart => exact ⟨0, Nat.zero_le _, Nat.zero_le _, rfl, rfl, 0, rfl⟩
  case round =>
    obtain ⟨k, hka, hkb, rfl, hc, nd, rfl⟩ := hrel
    have HC := Lib.hid hc; clear hc
    by_cases h1 : k < a.length
    · by_cases h2 : k < b.length
      · obtain ⟨ba, oa, rfl, ha'⟩ := CA.out (by omega)
        obtain ⟨bb, ob, rfl, hb'⟩ := CB.out (by omega)
        obtain ⟨x, hx⟩ : ∃ x, a[k]? = some x := ⟨_, List.getElem?_eq_getElem h1⟩
        obtain ⟨y, hy⟩ : ∃ y, b[k]? = some y := ⟨_, List.getElem?_eq_getElem h2⟩
        have ha1 := ha' k x hx
        have hb1 := hb' k y hy
        have HS := Lib.hid (cmpL_step hx hy)
        have i0 : (0 : Int) ≤ (k : Int) := by omega
        have i1 : (k : Int) < (a.length : Int) := by omega
        have i2 : (k : Int) < (b.length : Int) := by omega
        clear ha' hb' hx hy
        by_cases hxy : x = y
        · have hq : (x != y) = false := by simp [hxy]
          have HN := Lib.hid (show cmpL a b = cmpL (a.drop (k + 1)) (b.drop (k + 1)) by rw [HC.out, HS.out, if_neg (by omega), if_neg (by omega)])
          clear hxy
          go_wp2_with fail
          go_quiet (fail)
          go_wp2_with fail
          go_roundw
          case rel => exact ⟨k + 1, by omega, by omega, by go_num, HN.out, _, rfl⟩
          case measure => simp [intOf]; omega
        · have hq : (x != y) = true := by simp [hxy]
          have HN := Lib.hid (show lessL a b = decide (x < y) by
            unfold lessL
            rw [HC.out, HS.out]
            by_cases h : x < y
            · simp [h]
            · rw [if_neg h, if_pos (by omega)]; simp [h])
          clear hxy
          go_wp2_with fail
          go_quiet (fail)
          go_wp2_with fail
          go_quiet (fail)
          go_wp2_with fail
          go_ret
          exact ⟨congrArg (fun b => Ending.returned (Value.bool b)) HN.out.symm, _, by rw [World.drewN_drewN, World.drewN_drewN]⟩
      · have HN := Lib.hid (show lessL a b = false by unfold lessL; rw [HC.out, cmpL_long h1 (by omega)]; rfl)
        have hbl : b.length ≤ k := by omega
        have hd : ¬ (a.length : Int) < (b.length : Int) := by omega
        have hd2 : ¬ (k : Int) < (b.length : Int) := by omega
        have hd3 : ¬ a.length < b.length := by omega
        go_wp2_with fail
        go_ret
        exact ⟨congrArg (fun b => Ending.returned (Value.bool b)) HN.out.symm, _, rfl⟩
    · by_cases h2 : k < b.length
      · have HN := Lib.hid (show lessL a b = true by unfold lessL; rw [HC.out, cmpL_short (by omega) h2]; rfl)
        have hd3 : a.length < b.length := by omega
        go_wp2_with fail
        go_ret
        exact ⟨congrArg (fun b => Ending.returned (Value.bool b)) HN.out.symm, _, rfl⟩
      · have HN := Lib.hid (show lessL a b = false by unfold lessL; rw [HC.out, cmpL_end (by omega) (by omega)]; rfl)
        have hd3 : ¬ a.length < b.length := by omega
        go_wp2_with fail
        go_ret
        exact ⟨congrArg (fun b => Ending.returned (Value.bool b)) HN.out.symm, _, rfl⟩

/-! ### lists -/
set_option maxRecDepth 100000 in
set_option maxHeartbeats 2000000 in
theorem lists_any (w : World) (va vb : Value) (a b : List (List Int)) (ha : Lists w va a) (hb : Lists w vb b) :
    Calls Try.prog 49 #[va, vb] w fun e w' => e = .returned (.bool (a == b)) ∧ Keeps (fun _ => False) w w' := by
  obtain ⟨ao, ca, hva, ma⟩ := ha.form
  obtain ⟨bo, cb, hvb, mb⟩ := hb.form
  have CA := Lib.hid (ha.cell hva)
  have CB := Lib.hid (hb.cell hvb)
  subst hva hvb
  clear ha hb
  by_cases hl : a.length = b.length
  · have h1 : (((a.length : Int)) != (b.length : Int)) = false := by simp [hl]
    have HL := Lib.hid hl; clear hl
    go_enter Try.func49, Try.ntmps49
    go_wp2_with fail
    go_loopw [5] (fun i wr => ∃ k : Nat, k ≤ a.length ∧ i = .int .i64 (k : Int) ∧ a.take k = b.take k ∧ Keeps (fun _ => False) w wr) (fun i _ => a.length - (intOf i).toNat)
    case atStart => exact ⟨0, Nat.zero_le _, rfl, rfl, Keeps.refl _ _⟩
    case round =>
      obtain ⟨k, hk, rfl, ht, hB⟩ := hrel
      have HT := Lib.hid ht
      have HB := Lib.hid hB
      clear ht hB
      by_cases hlt : k < a.length
      · obtain ⟨ba, oa, rfl, ha'⟩ := CA.out (by omega)
        have hlt2 : k < b.length := by have := HL.out; omega
        obtain ⟨bb, ob, rfl, hb'⟩ := CB.out (by omega)
        obtain ⟨x, hx⟩ : ∃ x, a[k]? = some x := ⟨_, List.getElem?_eq_getElem hlt⟩
        obtain ⟨y, hy⟩ : ∃ y, b[k]? = some y := ⟨_, List.getElem?_eq_getElem hlt2⟩
        obtain ⟨u, hu, hiu⟩ := ha' k x hx
        obtain ⟨v, hv, hiv⟩ := hb' k y hy
        have ha1 := HB.out.cell hu (fun h => h)
        have hb1 := HB.out.cell hv (fun h => h)
        obtain ⟨au, cu, hfu, _⟩ := hiu.form
        obtain ⟨av, cv, hfv, _⟩ := hiv.form
        have KD := Lib.hid HB.out.drew
        have HU := Lib.hid (hiu.keeps0 KD.out); have HV := Lib.hid (hiv.keeps0 KD.out)
        subst hfu hfv
        have HX := Lib.hid hx
        have HY := Lib.hid hy
        have i0 : (0 : Int) ≤ (k : Int) := by omega
        have i1 : (k : Int) < (a.length : Int) := by omega
        have i2 : (k : Int) < (b.length : Int) := by omega
        clear ha' hb' hx hy hu hv hiu hiv
        go_upto_region 6 with fail
        go_still_tail 8, (by kernel_rfl)
        change wpList _ _ _ _ _ wr.drew
        clear ha1 hb1
        generalize wr.drew = w3 at KD HU HV ⊢
        go_wp2_with fail
        refine (ints_any _ _ _ _ _ HU.out HV.out).mono ?_; rintro e w4 ⟨rfl, hk4⟩
        have K4 := Lib.hid (KD.out.trans hk4)
        clear hk4
        by_cases hxy : x = y
        · rw [show (x == y) = true by simp [hxy]]
          have HXY := Lib.hid hxy; clear hxy
          go_wp2_with fail
          go_roundw
          case rel => exact ⟨k + 1, by omega, by go_num, by
            rw [take_getS HX.out, take_getS HY.out, HT.out, HXY.out], K4.out⟩
          case measure => simp [intOf]; omega
        · rw [show (x == y) = false by simp [hxy]]
          have hne : Hid ((a == b) = false) := by
            unfold Hid; rw [beq_eq_false_iff_ne]; rintro rfl
            exact hxy (Option.some.inj (HX.out.symm.trans HY.out))
          clear hxy
          go_wp2_with fail
          go_ret
          exact ⟨congrArg (fun b => Ending.returned (Value.bool b)) hne.out.symm, K4.out⟩
      · have hab : Hid ((a == b) = true) := by
          unfold Hid; rw [beq_iff_eq]
          have h1 := HT.out
          obtain rfl : k = a.length := by omega
          rw [List.take_length] at h1
          rw [h1]; apply List.take_of_length_le; have := HL.out; omega
        go_wp2_with fail
        go_ret
        exact ⟨congrArg (fun b => Ending.returned (Value.bool b)) hab.out.symm, HB.out⟩
  · have h1 : (((a.length : Int)) != (b.length : Int)) = true := by simp; omega
    have hne : Hid ((a == b) = false) := by unfold Hid; rw [beq_eq_false_iff_ne]; rintro rfl; exact hl rfl
    clear hl
    go_enter Try.func49, Try.ntmps49
    go_wp2_with fail
    go_ret
    exact ⟨congrArg (fun b => Ending.returned (Value.bool b)) hne.out.symm, Keeps.refl _ _⟩

/-! ### States -/
/-- The words in increasing order (by their lists of facts). -/
def ordW (a b : Nat) : Prop := ¬ cmpW b a < 0

theorem lessL_cmpW {x y : Nat} : lessL (facts x) (facts y) = decide (cmpW x y < 0) := rfl

/-- x stands behind P and before S; all of P S is in order, x goes before S. -/
structure InsAt (P S : List (Value × Nat)) (x : Nat) : Prop where
  sorted : ((P ++ S).map Prod.snd).Pairwise ordW
  right : ∀ p ∈ S, cmpW x p.2 < 0

theorem ordW_of_lt {x y : Nat} (h : cmpW x y < 0) : ordW x y := by
  unfold ordW cmpW at *
  rw [cmpL_neg]; omega
theorem InsAt.done {P S : List (Value × Nat)} {u : Value} {x : Nat} (h : InsAt P S x) (hl : ∀ p, P.getLast? = some p → ordW p.2 x) (htr : ∀ {a b c : Nat}, ordW a b → ordW b c → ordW a c) : ((P ++ (u, x) :: S).map Prod.snd).Pairwise ordW := by
  have hs := h.sorted
  rw [List.map_append, List.pairwise_append] at hs
  rw [List.map_append, List.map_cons, List.pairwise_append, List.pairwise_cons]
  refine ⟨hs.1, ⟨fun y hy => ?_, hs.2.1⟩, fun a ha b hb => ?_⟩
  · obtain ⟨p, hp, rfl⟩ := List.mem_map.1 hy
    exact ordW_of_lt (h.right p hp)
  · rcases List.mem_cons.1 hb with rfl | hb
    · obtain ⟨p, hp, rfl⟩ := List.mem_map.1 ha
      cases hg : P.getLast? with
      | none => rw [List.getLast?_eq_none_iff] at hg; subst hg; cases hp
      | some q =>
        have hq := hl q hg
        obtain ⟨r, rfl⟩ := List.getLast?_eq_some_iff.1 hg
        rcases List.mem_append.1 hp with hp | hp
        · have h1 := hs.1
          rw [List.map_append, List.pairwise_append] at h1
          exact htr (h1.2.2 p.2 (List.mem_map.2 ⟨p, hp, rfl⟩) q.2 (by simp)) hq
        · simp at hp; subst hp; exact hq
    · exact hs.2.2 a ha b hb
theorem InsAt.down {P S : List (Value × Nat)} {p : Value × Nat} {x : Nat} (h : InsAt (P ++ [p]) S x) (hp : cmpW x p.2 < 0) : InsAt P (p :: S) x := by
  refine ⟨by have := h.sorted; rwa [List.append_assoc, List.singleton_append] at this, fun q hq => ?_⟩
  rcases List.mem_cons.1 hq with rfl | hq
  · exact hp
  · exact h.right q hq

theorem ordW_trans {a b c : Nat} (h1 : ordW a b) (h2 : ordW b c) : ordW a c := by
  unfold ordW at *
  have e : ∀ x y : Nat, cmpW y x = - cmpW x y := fun x y => cmpL_neg _ _
  intro h3
  rw [e a b] at h1; rw [e b c] at h2
  by_cases hab : cmpW a b < 0
  · have h4 : cmpW c b < 0 := cmpL_trans h3 hab
    rw [e b c] at h4; omega
  · have hab0 : cmpW a b = 0 := by omega
    have := cmpL_eq hab0
    unfold cmpW at *
    rw [this] at h3
    rw [cmpL_neg] at h3; omega

theorem set_two {α : Type} {P S : List α} {p q : α} {k : Nat} (hk : P.length = k) : ((P ++ p :: q :: S).set (k + 1) p).set k q = P ++ q :: p :: S := by
  subst hk
  rw [List.set_append_right _ _ (by omega), List.set_append_right _ _ (by omega)]
  simp

def StatesPost (l : List Nat) (w : World) (e : Ending) (w' : World) : Prop := Keeps (fun _ => False) w w' ∧
  ∃ (L : List Nat) (v : Value), L.Perm l ∧ L.Pairwise ordW ∧ e = .returned (.tuple #[v, .bool true]) ∧ Lists w' v (L.map facts)

/-- A row of slices of facts. -/
structure PRow (w1 : World) (v : Value) (ps : List (Value × Nat)) (wr : World) : Prop where
  own : wr.ownsRow w1.heap.size 22 1 v ps.length (ps.map Prod.fst)
  vals : ∀ p ∈ ps, Ints w1 p.1 (facts p.2)
  keeps : Keeps (fun _ => False) w1 wr

theorem PRow.lists {w1 : World} {v : Value} {ps : List (Value × Nat)} {wr : World} (h : PRow w1 v ps wr) : Lists wr v ((ps.map Prod.snd).map facts) := by
  obtain ⟨ao, cap, hv, hm, hc⟩ := Sl.of_own h.own
  refine ⟨ao, cap, by rw [List.length_map, List.length_map]; exact hv, by rw [List.length_map, List.length_map]; exact hm, fun h0 => ?_⟩
  rw [List.length_map, List.length_map] at h0
  obtain ⟨b, off, ha, hx⟩ := hc h0
  refine ⟨b, off, ha, fun i l hl => ?_⟩
  rw [List.getElem?_map, List.getElem?_map] at hl
  cases hp : ps[i]? with
  | none => rw [hp] at hl; cases hl
  | some p =>
    rw [hp] at hl; cases hl
    exact ⟨p.1, hx i p.1 (by rw [List.getElem?_map, hp]; rfl), (h.vals p (List.mem_of_getElem? hp)).keeps0 h.keeps⟩
theorem PRow.cell {w1 : World} {g cap n : Nat} {ps : List (Value × Nat)} {wr : World} (h : PRow w1 (.slice (some ⟨g, 0, none⟩) n cap) ps wr) {i : Nat} {p : Value × Nat} (hp : ps[i]? = some p) : wr.cell? ⟨g, i, none⟩ = some p.1 := by
  have := World.ownsRow.cells h.own (g := g) rfl i p.1 (by rw [List.getElem?_map, hp]; rfl)
  have hadd : (⟨g, 0, none⟩ : Addr).add i = ⟨g, i, none⟩ := by unfold Addr.add; split <;> simp_all
  rwa [hadd] at this
theorem PRow.drew {w1 : World} {v : Value} {ps : List (Value × Nat)} {wr wq : World} (h : PRow w1 v ps wr) (hk : Keeps (fun _ => False) wr wq) : PRow w1 v ps wq := ⟨hk.ownsRow h.own (fun _ _ h => h), h.vals, h.keeps.trans hk⟩
/-- Two cells of the row stored. -/
theorem PRow.swap {w1 : World} {g cap n : Nat} {P S : List (Value × Nat)} {p q : Value × Nat} {wr : World} (hn : n = (P ++ p :: q :: S).length) (h : PRow w1 (.slice (some ⟨g, 0, none⟩) n cap) (P ++ p :: q :: S) wr) {k : Nat} (hk : P.length = k) :
    PRow w1 (.slice (some ⟨g, 0, none⟩) n cap) (P ++ q :: p :: S) ((wr.setCell ⟨g, k + 1, none⟩ p.1).setCell ⟨g, k, none⟩ q.1) := by
  subst hn
  have h1 := (h.own.stored (k + 1) p.1).1
  have h2 := (h1.stored k q.1).1
  have hl : (P ++ p :: q :: S).length = (P ++ q :: p :: S).length := by simp
  have hg : w1.heap.size ≤ g := (World.ownsRow.lt h.own g rfl).1
  refine ⟨?_, fun r hr => h.vals r ?_, h.keeps.trans' (((Keeps.refl (fun b => b = g) wr).setCell (p := ⟨g, k + 1, none⟩) (.inl rfl) _).setCell (p := ⟨g, k, none⟩) (.inl rfl) _) (fun b hb => .inr (by omega))⟩
  · have e : (((P ++ p :: q :: S).map Prod.fst).set (k + 1) p.1).set k q.1 = (P ++ q :: p :: S).map Prod.fst := by
      rw [List.map_append, List.map_cons, List.map_cons, set_two (by rw [List.length_map]; exact hk), List.map_append, List.map_cons, List.map_cons]
    rw [← e, ← hl]
    exact h2
  · simp only [List.mem_append, List.mem_cons] at hr ⊢
    rcases hr with hr | hr | hr | hr
    · exact .inl hr
    · exact .inr (.inr (.inl hr))
    · exact .inr (.inl hr)
    · exact .inr (.inr (.inr hr))

theorem ins_perm {P S ps : List (Value × Nat)} {u : Value} {x i : Nat} {l : List Nat} (h : P ++ S = ps) (hp : (ps.map Prod.snd).Perm (l.take i)) (hx : l.take (i + 1) = l.take i ++ [x]) : ((P ++ (u, x) :: S).map Prod.snd).Perm (l.take (i + 1)) := by
  rw [hx, List.map_append, List.map_cons]
  refine List.perm_middle.trans ?_
  refine (List.Perm.cons x ?_).trans (List.perm_append_singleton x _).symm
  rw [← List.map_append, h]
  exact hp

theorem less_b (w : World) (va vb : Value) {a b : List Int} {r : Bool} (ha : Ints w va a) (hb : Ints w vb b) (hr : lessL a b = r) :
    Calls Try.prog 81 #[va, vb] w fun e w' => e = .returned (.bool r) ∧ ∃ n, w' = w.drewN n := by rw [← hr]; exact less_any w va vb a b ha hb

set_option maxRecDepth 100000 in
set_option maxHeartbeats 4000000 in
theorem states_any (w : World) (vi vg vo : Value) (t : Tsk) (h : TaskAt w vi vg vo t) (ok : t.Ok) (l : List Nat) (hx : explored t = some l) :
    Calls Try.prog 47 #[.agg #[.int .i64 t.n, vi, vg, vo]] w (StatesPost l w) := by
  obtain ⟨j0, hj0, jz0, jz1, jz2⟩ := info_parts Try.info22
  obtain ⟨ai, ci, h1, _⟩ := h.init.form
  obtain ⟨ag, cg, h2, _⟩ := h.goal.form
  obtain ⟨ao, co, h3, hmo⟩ := h.ops.form
  subst h1 h2 h3
  have HB := Lib.hid (Four.new w (.int .i64 t.n) (.slice ai t.init.length ci) (.slice ag t.goal.length cg) (.slice ao t.ops.length co) 25)
  have K1 := (Keeps.refl (fun _ => False) w).alloc (.cells #[.int .i64 t.n, .slice ai t.init.length ci, .slice ag t.goal.length cg, .slice ao t.ops.length co] 25)
  have HT := Lib.hid (h.keeps0 K1); have HK := Lib.hid K1; have OK := Lib.hid ok; have HX := Lib.hid hx
  clear h K1 ok hx
  go_enter Try.func47, Try.ntmps47
  go_upto_region 1 with fail
  generalize (w.alloc (.cells #[.int .i64 t.n, .slice ai t.init.length ci, .slice ag t.goal.length cg, .slice ao t.ops.length co] 25)) = w1 at HB HT HK ⊢
  have hbx := HB.out.lt
  obtain ⟨d0, d1, d2, d3⟩ := HB.out
  go_wp2_with fail
  refine (reached_any _ _ _ _ t HT.out OK.out).mono ?_; rintro e w2 ⟨hk, hr⟩
  rcases hr with ⟨hn, rfl⟩ | ⟨l', hn, vl, vw, vs, rfl, hr⟩
  · have hx := HX.out
    unfold explored at hx
    rw [hx] at hn; cases hn
  obtain rfl : l' = l := by
    have hx := HX.out
    unfold explored at hx
    rw [hx] at hn; exact (Option.some.inj hn).symm
  have hfew := (reached_some hn).2.1
  have hlists := hr.lists
  obtain ⟨al, cl, hvl⟩ := ownsRow_form1 hr.out
  subst hvl
  have HCL := Lib.hid (hlists.cell rfl)
  have K2 := Lib.hid (HK.out.trans hk)
  clear hk hr hn d0 d1 d2 d3 hbx hlists
  go_wp2_with fail
  go_loopw [6, 7] (fun v6 v7 wr => ∃ (i : Nat) (ps : List (Value × Nat)), i ≤ l'.length ∧ v7 = .int .i64 (i : Int) ∧ PRow w2 v6 ps wr ∧ (ps.map Prod.snd).Perm (l'.take i) ∧ (ps.map Prod.snd).Pairwise ordW) (fun _ v7 _ => l'.length - (intOf v7).toNat)
  case atStart => exact ⟨0, [], Nat.zero_le _, rfl, ⟨World.ownsRow_nil _ _ _ _, (fun _ h => by cases h), Keeps.refl _ _⟩, by simp, by simp⟩
  case round =>
    obtain ⟨i, ps, hi, rfl, hp, hperm, hord⟩ := hrel
    obtain ⟨av, cv, hav⟩ := ownsRow_form1 hp.own
    subst hav
    have hpl : ps.length ≤ 2000 := by
      have := hperm.length_eq
      rw [List.length_map, List.length_take] at this; omega
    have HP := Lib.hid hp; have HPM := Lib.hid hperm; have HORD := Lib.hid hord
    have hsz := hp.keeps.size
    clear hp hperm hord
    by_cases hlt : i < l'.length
    · obtain ⟨bl, ol, rfl, hx'⟩ := HCL.out (by rw [List.length_map]; omega)
      obtain ⟨x, hx⟩ : ∃ x, l'[i]? = some x := ⟨_, List.getElem?_eq_getElem hlt⟩
      obtain ⟨u, hu, hiu⟩ := hx' i (facts x) (by rw [List.getElem?_map, hx]; rfl)
      have hu2 := HP.out.keeps.cell hu (fun h => h)
      have HU := Lib.hid hiu
      have HTK := Lib.hid (take_getS hx)
      obtain ⟨au, cu, hfu, _⟩ := hiu.form
      subst hfu
      clear hx' hx hu hiu
      go_wp2_with (at_builtin; refine wpList_append_d rfl _ _ _ rfl w2.heap.size 22 j0 _ 1 24 Try.underlying33 hj0 jz0 jz1 jz2 rfl (by omega) _ ps.length (ps.map Prod.fst) (by rfl) (World.ownsRow.alloc HP.out.own (.cells #[.slice au (facts x).length cu] 22)) ⟨wr.heap.size, 0, none⟩ 1 1 [.slice au (facts x).length cu] (by rfl) (by rfl) (World.news_of_block (cs := #[.slice au (facts x).length cu]) (t := 22) (fr := (0, 0)) (heap_alloc_new _ _)) (by simp [Value.oneCell']) (by omega) (by unfold maxLen; omega) (by omega) (by simp; omega) (wr.heap.size + 1) (by simp) ?_)
      intro gg cap2 w4 hown hgrow hat hlt4 hd4
      have HN4 := Lib.hid (show PRow w2 (.slice (some ⟨gg, 0, none⟩) (ps.length + 1) cap2) (ps ++ [(.slice au (facts x).length cu, x)]) w4 from
        ⟨by rw [List.length_append, List.map_append]; exact hown, fun p hp => by
          rcases List.mem_append.1 hp with hp | hp
          · exact HP.out.vals p hp
          · simp at hp; subst hp; exact HU.out, own_grown HP.out.own HP.out.keeps ((Keeps.refl _ wr).alloc (.cells #[.slice au (facts x).length cu] 22)) hgrow⟩)
      have HAL := Lib.hid hown.2
      clear hown hgrow hat hd4 hu2
      go_wp2_with fail
      go_loopw [8] (fun v8 wq => ∃ (k : Nat) (P S : List (Value × Nat)), v8 = .int .i64 (k : Int) ∧ P.length = k ∧ P ++ S = ps ∧ PRow w2 (.slice (some ⟨gg, 0, none⟩) (ps.length + 1) cap2) (P ++ (.slice au (facts x).length cu, x) :: S) wq ∧ InsAt P S x) (fun v8 _ => (intOf v8).toNat)
      case atStart => exact ⟨ps.length, ps, [], by simp, rfl, by simp, HN4.out, ⟨by rw [List.append_nil]; exact HORD.out, fun p hp => by cases hp⟩⟩
      case round =>
        obtain ⟨k, P, S, rfl, hPk, hPS, hrow, hins⟩ := hrel
        have HROW := Lib.hid hrow; have HINS := Lib.hid hins; have HPS := Lib.hid hPS
        have hklen : k ≤ ps.length := by rw [← hPS, List.length_append]; omega
        have hgl := (World.ownsRow.lt hrow.own gg rfl).2
        clear hrow hins hPS
        by_cases hk0 : 0 < k
        · obtain ⟨P', p, rfl⟩ : ∃ P' p, P = P' ++ [p] := by
            refine ⟨P.dropLast, P.getLast (by rintro rfl; simp at hPk; omega), ?_⟩
            rw [List.dropLast_concat_getLast]
          have hPl : P'.length + 1 = k := by rw [← hPk]; simp
          have hck : (P' ++ [p] ++ (.slice au (facts x).length cu, x) :: S)[k]? = some (.slice au (facts x).length cu, x) := by
            rw [List.getElem?_append_right (by rw [hPk]; omega), hPk, Nat.sub_self]; rfl
          have hcp : (P' ++ [p] ++ (.slice au (facts x).length cu, x) :: S)[k - 1]? = some p := by
            rw [List.append_assoc, List.getElem?_append_right (by omega), show k - 1 - P'.length = 0 by omega]; rfl
          have c1 := HROW.out.cell hck
          have c2 := HROW.out.cell hcp
          have hpm : p ∈ P' ++ [p] ++ (.slice au (facts x).length cu, x) :: S := List.mem_of_getElem? hcp
          have HPV := Lib.hid ((HROW.out.vals p hpm).keeps0 HROW.out.keeps)
          have HUV := Lib.hid (show Ints wr (.slice au (facts x).length cu) (facts x) from HU.out.keeps0 HROW.out.keeps)
          obtain ⟨vp, xp⟩ := p
          obtain ⟨ap, cp, hfp, _⟩ := (HROW.out.vals _ hpm).form
          simp only at hfp
          subst hfp
          simp only at c2
          have hw1 : IntKind.i64.wrap ((k : Int) - 1) = (k : Int) - 1 := IntWalk.i64_in _ (by omega)
          have hw2 : ((k : Int) - 1).toNat = k - 1 := by omega
          have hw3 : (0 : Int) ≤ (k : Int) - 1 := by omega
          have hw4 : (k : Int) - 1 < (ps.length : Int) + 1 := by omega
          have hw5 : (k : Int) < (ps.length : Int) + 1 := by omega
          have hw6 : (0 : Int) ≤ (k : Int) := by omega
          have hq : decide (0 < (k : Int)) = true := by simpa using hk0
          clear hck hcp hpm
          cases hlb : lessL (facts x) (facts xp) with
          | false =>
            have HLB := Lib.hid hlb
            clear hlb
            have HN := Lib.hid (HINS.out.done (u := .slice au (facts x).length cu) (fun q hq => by
              simp at hq; subst hq
              have h := HLB.out
              rw [lessL_cmpW] at h
              unfold ordW
              exact of_decide_eq_false h) ordW_trans)
            go_wp2_with fail
            go_quiet ((go_at_call 81; exact Calls.quiet_of (less_b _ _ _ (HUV.out.keeps0 ((Keeps.refl _ _).drewN _)) (HPV.out.keeps0 ((Keeps.refl _ _).drewN _)) HLB.out)))
            have HRW := Lib.hid (HROW.out.drew ((Keeps.refl _ wr).drewN nq))
            clear c1 c2 hw1 hw2 hw3 hw4
            generalize wr.drewN nq = w6 at HRW ⊢
            have HPE := Lib.hid (ins_perm (u := .slice au (facts x).length cu) HPS.out HPM.out HTK.out)
            go_wp2_with fail
            go_roundw
            case rel => exact ⟨i + 1, _, by omega, by go_num, HRW.out, HPE.out, HN.out⟩
            case measure => simp [intOf]; omega
          | true =>
            have HLB := Lib.hid hlb
            clear hlb
            have HN := Lib.hid (HINS.out.down (by
              have h := HLB.out
              rw [lessL_cmpW] at h
              exact of_decide_eq_true h))
            go_wp2_with fail
            go_quiet ((go_at_call 81; exact Calls.quiet_of (less_b _ _ _ (HUV.out.keeps0 ((Keeps.refl _ _).drewN _)) (HPV.out.keeps0 ((Keeps.refl _ _).drewN _)) HLB.out)))
            have HRW := Lib.hid (HROW.out.drew ((Keeps.refl _ wr).drewN nq))
            have c1' : (wr.drewN nq).cell? ⟨gg, k, none⟩ = some (.slice au (facts x).length cu) := c1
            have c2' : (wr.drewN nq).cell? ⟨gg, k - 1, none⟩ = some (.slice ap (facts xp).length cp) := c2
            have hgl2 : gg < (wr.drewN nq).heap.size := hgl
            clear c1 c2 hgl
            generalize wr.drewN nq = w6 at HRW c1' c2' hgl2 ⊢
            have ho6 := HRW.out.own
            rw [show (P' ++ [(Value.slice ap (facts xp).length cp, xp)] ++ (Value.slice au (facts x).length cu, x) :: S).length = ps.length + 1 by rw [← HPS.out]; simp; omega] at ho6
            have HO6 := Lib.hid ho6
            clear ho6
            have fr1 := HO6.out.frozenAt k
            have HSW := Lib.hid (show PRow w2 (.slice (some ⟨gg, 0, none⟩) (ps.length + 1) cap2) (P' ++ (.slice au (facts x).length cu, x) :: (.slice ap (facts xp).length cp, xp) :: S) ((w6.setCell ⟨gg, k, none⟩ (.slice ap (facts xp).length cp)).setCell ⟨gg, k - 1, none⟩ (.slice au (facts x).length cu)) by
              have h := HRW.out
              rw [List.append_assoc, List.singleton_append] at h
              have hlen : ps.length + 1 = (P' ++ (Value.slice ap (facts xp).length cp, xp) :: (Value.slice au (facts x).length cu, x) :: S).length := by
                rw [← HPS.out]; simp; omega
              have := PRow.swap hlen h (k := k - 1) (by omega)
              rwa [show k - 1 + 1 = k by omega] at this)
            have hc2s : (w6.setCell ⟨gg, k, none⟩ (.slice ap (facts xp).length cp)).cell? ⟨gg, k - 1, none⟩ = some (.slice ap (facts xp).length cp) := by
              have h1 := (HO6.out.stored k (.slice ap (facts xp).length cp)).1
              obtain ⟨g', cap', hv', h3, h4⟩ := h1.form (by simp)
              have := h1.cellAt (k - 1) (by simp; omega)
              rw [this, List.getElem?_set, if_neg (by omega), List.getElem?_map]
              rw [List.append_assoc, List.getElem?_append_right (by omega), show k - 1 - P'.length = 0 by omega]; rfl
            have hf2s : (w6.setCell ⟨gg, k, none⟩ (.slice ap (facts xp).length cp)).frozen? ⟨gg, k - 1, none⟩ = false := ((HO6.out.stored k (.slice ap (facts xp).length cp)).1).frozenAt (k - 1)
            have HPS2 := Lib.hid (show P' ++ (Value.slice ap (facts xp).length cp, xp) :: S = ps by rw [← HPS.out, List.append_assoc]; rfl)
            have hgl3 : gg < (w6.setCell ⟨gg, k, none⟩ (.slice ap (facts xp).length cp)).heap.size := by simpa using hgl2
            clear hw1
            go_upto_region 12 with fail
            clear c1' c2' fr1 hgl2
            generalize w6.setCell ⟨gg, k, none⟩ (.slice ap (facts xp).length cp) = w7 at HSW hc2s hf2s hgl3 ⊢
            go_wp2_with fail
            go_roundw
            case rel => exact ⟨k - 1, P', (.slice ap (facts xp).length cp, xp) :: S, by congr 1; omega, by omega, HPS2.out, HSW.out, HN.out⟩
            case measure => simp [intOf]; omega
        · have hk00 : k = 0 := by omega
          have hq : decide (0 < (k : Int)) = false := by rw [hk00]; rfl
          have hP0 : P = [] := List.length_eq_zero_iff.1 (by omega)
          have HN := Lib.hid (HINS.out.done (u := .slice au (facts x).length cu) (fun q hq => by rw [hP0] at hq; cases hq) ordW_trans)
          have HPE := Lib.hid (ins_perm (u := .slice au (facts x).length cu) HPS.out HPM.out HTK.out)
          clear hk00 hP0
          go_wp2_with fail
          go_quiet (fail)
          have HRW := Lib.hid (HROW.out.drew ((Keeps.refl _ wr).drewN nq))
          generalize wr.drewN nq = w6 at HRW ⊢
          go_wp2_with fail
          go_roundw
          case rel => exact ⟨i + 1, _, by omega, by go_num, HRW.out, HPE.out, HN.out⟩
          case measure => simp [intOf]; omega
    · have HE : Hid (l'.take i = l') := by unfold Hid; exact List.take_of_length_le (by omega)
      go_wp2_with fail
      go_ret2
      exact ⟨K2.out.trans HP.out.keeps, ps.map Prod.snd, _, by have h := HPM.out; rwa [HE.out] at h, HORD.out, rfl, HP.out.lists⟩

end Go.Proofs.Ytcfcmmajlkkabaa
