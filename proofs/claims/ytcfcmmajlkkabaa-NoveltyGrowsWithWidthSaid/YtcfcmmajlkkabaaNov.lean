/- space.Path over any tree of parents (the text of Path's walk over a weaker tree). -/
import Derived.Test.YtcfcmmajlkkabaaPath
namespace Go.Proofs.Ytcfcmmajlkkabaa
open Go.RowKit Go.Sort Go.Proofs

structure PTree (ops : List Wop) (s : Nat) (T : List Ent) : Prop where
  nodup : (keysT T).Nodup
  head : T[0]? = some ⟨s, s, 0, []⟩
  run : ∀ e ∈ T, runOps ops s e.path = some e.to
  parent : ∀ (j : Nat) e, T[j]? = some e → 0 < j → ∃ (k : Nat) (f : Ent), k < j ∧ True ∧ T[k]? = some f ∧ e.frm = f.to ∧ e.path = f.path ++ [e.op] ∧ e.op < ops.length
  reach : ∀ e ∈ T, Reach ops s e.to

theorem PTree.inj {ops : List Wop} {s : Nat} {T : List Ent} (h : PTree ops s T) {j k : Nat} {e f : Ent} (he : T[j]? = some e) (hf : T[k]? = some f) (hef : e.to = f.to) : j = k := by
  have h1 : (keysT T)[j]? = some e.to := by unfold keysT; rw [List.getElem?_map, he]; rfl
  have h2 : (keysT T)[k]? = some f.to := by unfold keysT; rw [List.getElem?_map, hf]; rfl
  obtain ⟨l1, g1⟩ := List.getElem?_eq_some_iff.1 h1
  obtain ⟨l2, g2⟩ := List.getElem?_eq_some_iff.1 h2
  exact (List.getElem_inj h.nodup).1 (by rw [g1, g2, hef])

theorem PTree.start (ops : List Wop) (s : Nat) : PTree ops s [⟨s, s, 0, []⟩] := by
  refine ⟨by simp [keysT], rfl, fun e he => ?_, fun j e hj h0 => ?_, fun e he => ?_⟩
  · simp at he; subst he; rfl
  · cases j with
    | zero => omega
    | succ j => simp at hj
  · simp at he; subst he; exact .refl

theorem PTree.add {ops : List Wop} {s : Nat} {T : List Ent} (h : PTree ops s T) {e : Ent} (he : e ∈ T) {x : Stp} (hx : x ∈ wsteps ops e.to) (hn : x.to ∉ keysT T) : PTree ops s (T ++ [e.of x]) := by
  obtain ⟨o, ho, hc, _, hto⟩ := wsteps_mem.1 hx
  obtain ⟨i, hi⟩ := List.mem_iff_getElem?.1 he
  refine ⟨?_, ?_, fun f hf => ?_, fun j f hj h0 => ?_, fun f hf => ?_⟩
  · show (List.map Ent.to (T ++ [e.of x])).Nodup
    rw [List.map_append]
    refine List.nodup_append.2 ⟨h.nodup, by simp, fun a ha b hb => ?_⟩
    simp [Ent.of] at hb
    subst hb
    rintro rfl
    exact hn ha
  · have := (List.getElem?_eq_some_iff.1 h.head).1
    rw [List.getElem?_append_left this]; exact h.head
  · rcases List.mem_append.1 hf with hf | hf
    · exact h.run f hf
    · simp at hf; subst hf
      show runOps ops s (e.path ++ [x.op]) = some x.to
      rw [hto]
      exact runOps_snoc' (h.run e he) ho hc
  · by_cases hlt : j < T.length
    · rw [List.getElem?_append_left hlt] at hj
      obtain ⟨k, g, h1, h2, h3, h4⟩ := h.parent j f hj h0
      exact ⟨k, g, h1, h2, by rw [List.getElem?_append_left (by omega)]; exact h3, h4⟩
    · have hil := (List.getElem?_eq_some_iff.1 hj).1
      have hj' : j = T.length := by simp at hil; omega
      subst hj'
      rw [List.getElem?_append_right (Nat.le_refl _)] at hj
      simp at hj; subst hj
      have hl := (List.getElem?_eq_some_iff.1 hi).1
      exact ⟨i, e, hl, trivial, by rw [List.getElem?_append_left hl]; exact hi, rfl, rfl, (List.getElem?_eq_some_iff.1 ho).1⟩
  · rcases List.mem_append.1 hf with hf | hf
    · exact h.reach f hf
    · simp at hf; subst hf
      refine .step (h.reach e he) ?_
      show x.to ∈ nexts ops e.to
      unfold nexts
      rw [hto]
      exact List.mem_map.2 ⟨o, List.mem_filter.2 ⟨List.mem_of_getElem? ho, hc⟩, rfl⟩

theorem PTree.few {ops : List Wop} {s : Nat} {T : List Ent} (h : PTree ops s T) {l : List Nat} (hr : reached ops s = some l) : T.length ≤ l.length := by
  have := nodup_sub_length h.nodup (b := l) (fun x hx => by
    unfold keysT at hx
    obtain ⟨e, he, rfl⟩ := List.mem_map.1 hx
    exact ((reached_some hr).2.2.2 e.to).2 (h.reach e he))
  unfold keysT at this
  rwa [List.length_map] at this

set_option maxRecDepth 100000 in
set_option maxHeartbeats 1000000 in
theorem path_p (w : World) (m : Nat) (ops : List Wop) (s : Nat) (T : List Ent) (k : Nat) (e : Ent) (ok : PTree ops s T) (hm : IMap w m .u32 (parL T)) (he : T[k]? = some e) (few : T.length ≤ 100000) :
    Calls Try.prog 92 #[.map (some m), .int .u32 (s : Int), .int .u32 (e.to : Int)] w fun en w' => ∃ v, en = .returned v ∧ w'.ownsRow w.heap.size 3 1 v e.path.length ((intsP e.path).map (Value.int .i64)) ∧ Keeps (fun _ => False) w w' := by
  obtain ⟨i0, hi0, hz0, hz1, hz2⟩ := info_parts Try.info3
  have HM := Lib.hid hm; have OK := Lib.hid ok; have HE := Lib.hid he; have FEW := Lib.hid few
  have hkl := (List.getElem?_eq_some_iff.1 he).1
  clear hm ok he few
  go_enter Try.func92, Try.ntmps92
  go_wp2_with fail
  go_loopw [2, 7] (fun x v wr => ∃ (j : Nat) (f : Ent) (out : List Nat), T[j]? = some f ∧ out.length + j ≤ k ∧ e.path = f.path ++ out.reverse ∧ x = .int .u32 (f.to : Int) ∧ wr.ownsRow w.heap.size 3 1 v (intsP out).length ((intsP out).map (Value.int .i64)) ∧ Keeps (fun _ => False) w wr)
    (fun x _ _ => ((keysT T).idxOf (intOf x).toNat))
  case atStart => exact ⟨k, e, [], HE.out, by simp, by simp, rfl, World.ownsRow_nil _ _ _ _, Keeps.refl _ _⟩
  case round =>
    obtain ⟨j, f, out, hj, hjk, hp, rfl, hown, hkw⟩ := hrel
    have HO := Lib.hid hown; have KW := Lib.hid hkw; have HP := Lib.hid hp; have HJ := Lib.hid hj; have HJK := Lib.hid hjk
    have hmw := HM.out.keeps hkw (fun h => h)
    clear hown hkw hp hj hjk
    obtain ⟨av, cv, hv⟩ := ownsRow_form1 HO.out
    subst hv
    by_cases hne : f.to = s
    · have hb : ((f.to : Int) != (s : Int)) = false := by simp [hne]
      have hf : f.path = [] := by
        have h0 := OK.out.inj HJ.out OK.out.head hne
        subst h0
        have h1 := HJ.out
        rw [OK.out.head] at h1
        cases h1; rfl
      have HPE := Lib.hid (show (intsP out).reverse = intsP e.path by
        rw [HP.out, hf]; simp [intsP])
      clear hne hf
      go_wp2_with fail
      refine (reverse_any _ _ _ _ (intsP out) HO.out (by have := HJK.out; have := FEW.out; simp [intsP]; omega)).mono ?_
      rintro e' w5 ⟨rfl, hown2, hk5⟩
      have HO5 := Lib.hid hown2
      have K5 := Lib.hid (KW.out.trans' hk5 (fun b hb => .inr (World.ownsRow.lt HO.out b hb).1))
      clear hown2 hk5
      go_wp2_with fail
      go_ret
      refine ⟨_, rfl, ?_, K5.out⟩
      have h2 : (intsP out).length = e.path.length := by
        have := congrArg List.length HPE.out
        simpa [intsP] using this
      have h1 := HO5.out
      rw [HPE.out] at h1
      generalize (Value.slice av (intsP out).length cv) = v at h1
      rw [h2] at h1
      exact h1
    · have hb : ((f.to : Int) != (s : Int)) = true := by simp; omega
      have hj0 : 0 < j := by
        rcases Nat.eq_zero_or_pos j with h0 | h0
        · exfalso
          have h1 := HJ.out
          rw [h0, OK.out.head] at h1
          cases h1; exact hne rfl
        · exact h0
      obtain ⟨k2, g, h1, h2, h3, h4, h5, h6⟩ := OK.out.parent j f HJ.out hj0
      have HG := Lib.hid h3; have HFG := Lib.hid h4; have HPG := Lib.hid h5; have HKJ := Lib.hid h1
      have hlk := (hmw.run_lookup_hit (P := Try.prog) Try.underlying138 Try.underlying90 (parL_nodup OK.out.nodup) (parL_mem (List.mem_of_getElem? HJ.out))).2
      clear hne h1 h2 h3 h4 h5 h6 hj0
      have HB := Lib.hid (heap_alloc_new wr (.cells #[.int .u32 (f.frm : Int), .int .i64 (f.op : Int)] 137))
      have KA := Lib.hid ((Keeps.refl (fun _ => False) wr).alloc (.cells #[.int .u32 (f.frm : Int), .int .i64 (f.op : Int)] 137))
      go_upto_region 4 with fail
      generalize wr.alloc (.cells #[.int .u32 (f.frm : Int), .int .i64 (f.op : Int)] 137) = w3 at KA HB ⊢
      have c0 : w3.cell? ⟨wr.heap.size, 0, none⟩ = some (.int .u32 (f.frm : Int)) := by rw [cell_of_blk HB.out]; rfl
      have c1 : w3.cell? ⟨wr.heap.size, 1, none⟩ = some (.int .i64 (f.op : Int)) := by rw [cell_of_blk HB.out]; rfl
      have hO3 := KA.out.ownsRow HO.out (fun _ _ h => h)
      have hlen : (intsP out).length ≤ 100000 := by have := HJK.out; have := FEW.out; simp [intsP]; omega
      have hfew := FEW.out; have hs3 := KA.out.size; have hsw := KW.out.size
      go_wp2_with (at_builtin; refine wpList_append_d rfl _ _ _ rfl w.heap.size 3 i0 _ 1 8 Try.underlying22 hi0 hz0 hz1 hz2 rfl (by omega) _ (intsP out).length ((intsP out).map (Value.int .i64)) (by rfl) (World.ownsRow.alloc hO3 (.cells #[.int .i64 (f.op : Int)] 3)) ⟨w3.heap.size, 0, none⟩ 1 1 [.int .i64 (f.op : Int)] (by rfl) (by rfl) ?hnews ?hone (by omega) (by unfold maxLen; omega) (by omega) (by simp; omega) (w3.heap.size + 1) (by simp) ?_)
      case hnews => exact World.news_of_block (cs := #[.int .i64 (f.op : Int)]) (t := 3) (fr := (0, 0)) (heap_alloc_new _ _)
      case hone => simp [Value.oneCell']
      intro gg cap2 w4 hown hgrow hat hlt4 hd4
      have HN := Lib.hid (show w4.ownsRow w.heap.size 3 1 (.slice (some ⟨gg, 0, none⟩) ((intsP out).length + 1) cap2) (intsP (out ++ [f.op])).length ((intsP (out ++ [f.op])).map (Value.int .i64)) by
        have e1 : (intsP (out ++ [f.op])) = intsP out ++ [(f.op : Int)] := by simp [intsP]
        rw [e1, List.map_append, List.length_append]; exact hown)
      have HKN := Lib.hid (own_grown HO.out KW.out (KA.out.alloc (.cells #[.int .i64 (f.op : Int)] 3)) hgrow)
      have d0 : w4.cell? ⟨wr.heap.size, 0, none⟩ = some (.int .u32 (f.frm : Int)) := by
        have hb4 : w4.heap[wr.heap.size]? = _ := (steady_keeps hgrow).heap ((Below.heap_alloc w3 (.cells #[.int .i64 (f.op : Int)] 3) wr.heap.size (lt_of_heap HB.out)).trans HB.out) (fun e' => by have := (World.ownsRow.lt HO.out _ e').2; omega)
        rw [cell_of_blk hb4]; rfl
      clear hown hgrow hat hd4 c0 c1 hO3 hmw
      go_wp2_with fail
      go_roundw
      case rel =>
        refine ⟨k2, g, out ++ [f.op], HG.out, by have := HKJ.out; have := HJK.out; simp; omega, ?_, by rw [HFG.out], HN.out, HKN.out⟩
        rw [HP.out, HPG.out]; simp
      case measure =>
        have idx : ∀ (j : Nat) (x : Ent), T[j]? = some x → (keysT T).idxOf x.to = j := by
          intro j x hx
          have h1 : (keysT T)[j]? = some x.to := by unfold keysT; rw [List.getElem?_map, hx]; rfl
          obtain ⟨l1, g1⟩ := List.getElem?_eq_some_iff.1 h1
          rw [← g1]
          exact OK.out.nodup.idxOf_getElem j l1
        simp only [intOf, HFG.out, Int.toNat_natCast]
        rw [idx _ _ HG.out, idx _ _ HJ.out]
        exact HKJ.out

end Go.Proofs.Ytcfcmmajlkkabaa

/- The search by novelty in plain words. -/
namespace Go.Proofs.Ytcfcmmajlkkabaa

section
variable (acc : Nat → Bool) (cov : Nat → List Nat → Bool)

/-- The steps of one entry: the tree behind them and the goal that ended them. -/
def novL (e : Ent) : List Ent → List Stp → List Ent × Option Ent
  | T, [] => (T, none)
  | T, x :: r => if x.to ∈ keysT T then novL e T r
    else if acc x.to = true then (T ++ [e.of x], some (e.of x))
    else if cov x.to (keysT T) = true then novL e T r
    else novL e (T ++ [e.of x]) r

def novT (ops : List Wop) (s : Nat) : Nat → List Ent
  | 0 => [⟨s, s, 0, []⟩]
  | i + 1 => match (novT ops s i)[i]? with
    | none => novT ops s i
    | some e => (novL acc cov e (novT ops s i) (wsteps ops e.to)).1

/-- No goal came ahead of the entry at i. -/
def NovNo (ops : List Wop) (s i : Nat) : Prop := ∀ (j : Nat) e, j < i → (novT acc cov ops s j)[j]? = some e → (novL acc cov e (novT acc cov ops s j) (wsteps ops e.to)).2 = none

inductive NovRes (ops : List Wop) (s : Nat) : Option (List Nat) → Nat → Prop
  | start : acc s = true → NovRes ops s (some []) 0
  | none (i : Nat) : acc s = false → (novT acc cov ops s i).length = i → NovNo acc cov ops s i → NovRes ops s none i
  | found (i : Nat) (e f : Ent) : acc s = false → NovNo acc cov ops s i → (novT acc cov ops s i)[i]? = some e → (novL acc cov e (novT acc cov ops s i) (wsteps ops e.to)).2 = some f → NovRes ops s (some f.path) (i + 1)

theorem novL_append (e : Ent) : ∀ (a b : List Stp) (T : List Ent), novL acc cov e T (a ++ b) = match (novL acc cov e T a).2 with
    | some f => ((novL acc cov e T a).1, some f)
    | none => novL acc cov e (novL acc cov e T a).1 b
  | [], b, T => rfl
  | x :: r, b, T => by
    rw [List.cons_append, novL, novL]
    split
    · exact novL_append e r b T
    · split
      · rfl
      · split
        · exact novL_append e r b T
        · exact novL_append e r b _
end

theorem novT_step {acc : Nat → Bool} {cov : Nat → List Nat → Bool} {ops : List Wop} {s i : Nat} {e : Ent} (h : (novT acc cov ops s i)[i]? = some e) : novT acc cov ops s (i + 1) = (novL acc cov e (novT acc cov ops s i) (wsteps ops e.to)).1 := by
  rw [novT, h]

theorem novL_ok {acc : Nat → Bool} {cov : Nat → List Nat → Bool} {ops : List Wop} {s : Nat} {e : Ent} : ∀ {xs : List Stp} {T : List Ent}, PTree ops s T → e ∈ T → (∀ x ∈ xs, x ∈ wsteps ops e.to) → PTree ops s (novL acc cov e T xs).1
  | [], T, h, _, _ => h
  | x :: r, T, h, he, hx => by
    rw [novL]
    split
    · exact novL_ok h he (fun y hy => hx y (List.mem_cons_of_mem _ hy))
    · rename_i hn
      split
      · exact h.add he (hx x (List.mem_cons_self ..)) hn
      · split
        · exact novL_ok h he (fun y hy => hx y (List.mem_cons_of_mem _ hy))
        · exact novL_ok (h.add he (hx x (List.mem_cons_self ..)) hn) (List.mem_append_left _ he) (fun y hy => hx y (List.mem_cons_of_mem _ hy))

theorem novL_prefix {acc : Nat → Bool} {cov : Nat → List Nat → Bool} {e : Ent} : ∀ (xs : List Stp) (T : List Ent), T <+: (novL acc cov e T xs).1
  | [], T => List.prefix_refl _
  | x :: r, T => by
    rw [novL]
    split
    · exact novL_prefix r T
    · split
      · exact List.prefix_append _ _
      · split
        · exact novL_prefix r T
        · exact (List.prefix_append _ _).trans (novL_prefix r _)

theorem novT_ok (acc : Nat → Bool) (cov : Nat → List Nat → Bool) (ops : List Wop) (s : Nat) : ∀ i, PTree ops s (novT acc cov ops s i)
  | 0 => PTree.start ops s
  | i + 1 => by
    have h := novT_ok acc cov ops s i
    rw [novT]
    split
    · exact h
    · rename_i e he
      exact novL_ok h (List.mem_of_getElem? he) (fun _ h => h)

theorem NovRes.unique {acc : Nat → Bool} {cov : Nat → List Nat → Bool} {ops : List Wop} {s : Nat} {r r' : Option (List Nat)} {n n' : Nat} (h : NovRes acc cov ops s r n) (h' : NovRes acc cov ops s r' n') : r = r' ∧ n = n' := by
  cases h with
  | start h0 =>
    cases h' with
    | start _ => exact ⟨rfl, rfl⟩
    | none i h1 => rw [h0] at h1; cases h1
    | found i e f h1 => rw [h0] at h1; cases h1
  | none i h0 hl hn =>
    cases h' with
    | start h1 => rw [h0] at h1; cases h1
    | none j _ hl' hn' =>
      refine ⟨rfl, ?_⟩
      have key : ∀ (a k : Nat), (novT acc cov ops s a).length = a → (novT acc cov ops s (a + k)) = novT acc cov ops s a := by
        intro a k ha
        induction k with
        | zero => rfl
        | succ k ih =>
          rw [← Nat.add_assoc, novT, List.getElem?_eq_none (by rw [ih, ha]; omega)]
          exact ih
      rcases Nat.le_total n n' with hle | hle
      · have := key n (n' - n) hl
        rw [Nat.add_sub_cancel' hle] at this
        rw [this] at hl'; omega
      · have := key n' (n - n') hl'
        rw [Nat.add_sub_cancel' hle] at this
        rw [this] at hl; omega
    | found j e f _ hn' he hf =>
      exfalso
      rcases Nat.lt_or_ge j n with hlt | hge
      · rw [hn j e hlt he] at hf; cases hf
      · have key : ∀ k : Nat, (novT acc cov ops s (n + k)) = novT acc cov ops s n := by
          intro k
          induction k with
          | zero => rfl
          | succ k ih =>
            rw [← Nat.add_assoc, novT, List.getElem?_eq_none (by rw [ih, hl]; omega)]
            exact ih
        have h1 := key (j - n)
        rw [Nat.add_sub_cancel' hge] at h1
        have := (List.getElem?_eq_some_iff.1 he).1
        rw [h1, hl] at this; omega
  | found i e f h0 hn he hf =>
    cases h' with
    | start h1 => rw [h0] at h1; cases h1
    | none j _ hl' hn' =>
      exfalso
      rcases Nat.lt_or_ge i n' with hlt | hge
      · rw [hn' i e hlt he] at hf; cases hf
      · have key : ∀ k : Nat, (novT acc cov ops s (n' + k)) = novT acc cov ops s n' := by
          intro k
          induction k with
          | zero => rfl
          | succ k ih =>
            rw [← Nat.add_assoc, novT, List.getElem?_eq_none (by rw [ih, hl']; omega)]
            exact ih
        have h1 := key (i - n')
        rw [Nat.add_sub_cancel' hge] at h1
        have := (List.getElem?_eq_some_iff.1 he).1
        rw [h1, hl'] at this; omega
    | found j e' f' _ hn' he' hf' =>
      rcases Nat.lt_trichotomy i j with hlt | rfl | hgt
      · rw [hn' i e hlt he] at hf; cases hf
      · rw [he] at he'; cases he'
        rw [hf] at hf'; cases hf'
        exact ⟨rfl, rfl⟩
      · rw [hn j e' hgt he'] at hf'; cases hf'

end Go.Proofs.Ytcfcmmajlkkabaa
