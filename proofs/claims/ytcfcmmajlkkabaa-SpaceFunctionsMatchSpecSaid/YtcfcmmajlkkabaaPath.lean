/- slices.Reverse over owned rows; space.Path. -/
import Derived.Test.YtcfcmmajlkkabaaTree
import Derived.Test.YtcfcmmajlkkabaaKitA
import Derived.Test.YtcfcmmajlkkabaaSort
import Derived.Test.YtcfcmmajlkkabaaWord
namespace Go.Proofs.Ytcfcmmajlkkabaa
open Go.RowKit Go.Sort Go.Proofs

section
variable {α : Type} [Inhabited α] (enc : α → Value)
theorem holdsE_of_block {w : World} {g : Nat} {cur : Array Value} {e : TypeId} {ss : List α} (hb : w.heap[g]? = some (.cells cur e (0, 0))) (ht : cur.toList.take ss.length = ss.map enc) : Holds enc w g 0 ss.toArray := by
  intro j hj
  have hj' : j < ss.length := by simpa using hj
  refine ⟨?_, by simp [World.frozen?, hb]⟩
  have h1 : (cur.toList.take ss.length)[j]? = (ss.map enc)[j]? := by rw [ht]
  rw [List.getElem?_take_of_lt hj'] at h1
  simp only [World.cell?, hb, Nat.zero_add]
  simp only [Option.isSome_none, Bool.false_eq_true, if_false]
  rw [← Array.getElem?_toList, h1]
  simp [hj']
theorem take_putCellsE (cur : Array Value) (ts : List α) (h : ts.length ≤ cur.size) : (putCells enc 0 ts.toArray cur).toList.take ts.length = ts.map enc := by
  apply List.ext_getElem?
  intro j
  by_cases hj : j < ts.length
  · rw [List.getElem?_take_of_lt hj, Array.getElem?_toList]
    simp [putCells, hj, show j < cur.size by omega]
  · rw [List.getElem?_take_eq_none (by omega), List.getElem?_eq_none (by simp; omega)]
theorem heap_putE {w : World} {g n : Nat} {cur : Array Value} {e : TypeId} {fr : Nat × Nat} (d : Array α) (hb : w.heap[g]? = some (.cells cur e fr)) :
    (putRow enc (Sort.ahead w n) g 0 d).heap[g]? = some (.cells (putCells enc 0 d cur) e fr) := by
  simp [putRow, mapBlock, Sort.ahead, Array.getElem?_modify, hb, onCells]
theorem keeps_putE {w : World} {g n : Nat} (d : Array α) : Keeps (fun b => b = g) w (putRow enc (Sort.ahead w n) g 0 d) := by
  refine ⟨rfl, rfl, rfl, by simp [putRow, mapBlock, Sort.ahead], fun k hk hne => ?_⟩
  have : g ≠ k := fun e => hne e.symm
  simp [putRow, mapBlock, Sort.ahead, Array.getElem?_modify, this]
end

theorem reverse_any (w : World) (base : Nat) (T : TypeId) (v : Value) (l : List Int) (hown : w.ownsRow base T 1 v l.length (l.map (Value.int .i64))) (hlen : l.length ≤ 9223372036854775807) :
    Calls Try.prog 84 #[v] w fun e w' => e = .returned (.tuple #[]) ∧ w'.ownsRow base T 1 v l.length (l.reverse.map (Value.int .i64)) ∧ Keeps (fun b => v.ownBlock = some b) w w' := by
  rcases hown.2 with ⟨rfl, h0⟩ | ⟨g, cap, cur, rfl, hb, hg, hn, hm, hs, ht⟩
  · have hz : l = [] := List.length_eq_zero_iff.1 h0
    subst hz
    refine (Try.slices_Reverse_int_empty none 0 w).mono ?_
    rintro e w' ⟨rfl, rfl⟩
    exact ⟨rfl, World.ownsRow_nil _ _ _ _, Keeps.refl _ _⟩
  · have ht' : cur.toList.take l.length = l.map (Value.int .i64) := by simpa using ht
    refine (Try.slices_Reverse_int g 0 cap l w (holdsE_of_block (Value.int .i64) hg ht') hlen).mono ?_
    rintro e w' ⟨rfl, n, rfl⟩
    refine ⟨rfl, ⟨by simp, .inr ⟨g, cap, _, rfl, hb, heap_putE (Value.int .i64) _ hg, hn, hm, by simp [putCells, hs], ?_⟩⟩, (keeps_putE (Value.int .i64) _).mono (fun i _ h => by subst h; rfl)⟩
    have := take_putCellsE (Value.int .i64) cur l.reverse (by simp; omega)
    simpa using this

/-! ### space.Path -/
/-- The map of a tree. -/
def parL (T : List Ent) : List (Int × Value) := T.map fun e => ((e.to : Int), Value.agg #[.int .u32 (e.frm : Int), .int .i64 (e.op : Int)])
theorem parL_nodup {T : List Ent} (h : (keysT T).Nodup) : ((parL T).map Prod.fst).Nodup := by
  have e : (parL T).map Prod.fst = (keysT T).map fun x : Nat => (x : Int) := by unfold parL keysT; rw [List.map_map, List.map_map]; rfl
  rw [e]
  exact List.Pairwise.map _ (fun a b hab => by omega) h
theorem parL_mem {T : List Ent} {e : Ent} (h : e ∈ T) : ((e.to : Int), Value.agg #[.int .u32 (e.frm : Int), .int .i64 (e.op : Int)]) ∈ parL T := List.mem_map.2 ⟨e, h, rfl⟩
theorem parL_miss {T : List Ent} {x : Nat} (h : x ∉ keysT T) : ∀ p ∈ parL T, p.1 ≠ (x : Int) := by
  intro p hp e
  obtain ⟨y, hy, rfl⟩ := List.mem_map.1 hp
  have : y.to = x := by simp only at e; omega
  exact h (List.mem_map.2 ⟨y, hy, this⟩)

def intsP (p : List Nat) : List Int := p.map fun x : Nat => (x : Int)

set_option maxRecDepth 100000 in
set_option maxHeartbeats 1000000 in
theorem path_any (w : World) (m : Nat) (ops : List Wop) (s i : Nat) (T : List Ent) (k : Nat) (e : Ent) (ok : TreeOk ops s i T) (hm : IMap w m .u32 (parL T)) (he : T[k]? = some e) (few : T.length ≤ 100000) :
    Calls Try.prog 92 #[.map (some m), .int .u32 (s : Int), .int .u32 (e.to : Int)] w fun en w' => ∃ v, en = .returned v ∧ w'.ownsRow w.heap.size 3 1 v e.path.length ((intsP e.path).map (Value.int .i64)) ∧ Keeps (fun _ => False) w w' := by
  obtain ⟨i0, hi0, hz0, hz1, hz2⟩ := info_parts Try.info3
  have HM := Lib.hid hm; have OK := Lib.hid ok; have HE := Lib.hid he; have FEW := Lib.hid few
  have hkl := (List.getElem?_eq_some_iff.1 he).1
  clear hm ok he few
  go_enter Try.func92, Try.ntmps92
  go_wp2_with fail
  go_loopw [2, 7] (fun x v wr => ∃ (j : Nat) (f : Ent) (out : List Nat), T[j]? = some f ∧ out.length + j ≤ k ∧ e.path = f.path ++ out.reverse ∧ x = .int .u32 (f.to : Int) ∧ wr.ownsRow w.heap.size 3 1 v (intsP out).length ((intsP out).map (Value.int .i64)) ∧ Keeps (fun _ => False) w wr)
    (fun x _ _ => ((keysT T).idxOf (intOf x).toNat))
  case atStart => exact ⟨k, e, [], HE.out, by simp, by simp, rfl, World.ownsRow_nil _ _ _ _, Keeps.refl _ _⟩
  case round =>
    obtain ⟨j, f, out, hj, hjk, hp, rfl, hown, hkw⟩ := hrel
    have HO := Lib.hid hown; have KW := Lib.hid hkw; have HP := Lib.hid hp; have HJ := Lib.hid hj; have HJK := Lib.hid hjk
    have hmw := HM.out.keeps hkw (fun h => h)
    clear hown hkw hp hj hjk
    obtain ⟨av, cv, hv⟩ := ownsRow_form1 HO.out
    subst hv
    by_cases hne : f.to = s
    · have hb : ((f.to : Int) != (s : Int)) = false := by simp [hne]
      have hf : f.path = [] := by
        have h0 := OK.out.inj HJ.out OK.out.head hne
        subst h0
        have h1 := HJ.out
        rw [OK.out.head] at h1
        cases h1; rfl
      have HPE := Lib.hid (show (intsP out).reverse = intsP e.path by
        rw [HP.out, hf]; simp [intsP])
      clear hne hf
      go_wp2_with fail
      refine (reverse_any _ _ _ _ (intsP out) HO.out (by have := HJK.out; have := FEW.out; simp [intsP]; omega)).mono ?_
      rintro e' w5 ⟨rfl, hown2, hk5⟩
      have HO5 := Lib.hid hown2
      have K5 := Lib.hid (KW.out.trans' hk5 (fun b hb => .inr (World.ownsRow.lt HO.out b hb).1))
      clear hown2 hk5
      go_wp2_with fail
      go_ret
      refine ⟨_, rfl, ?_, K5.out⟩
      have h2 : (intsP out).length = e.path.length := by
        have := congrArg List.length HPE.out
        simpa [intsP] using this
      have h1 := HO5.out
      rw [HPE.out] at h1
      generalize (Value.slice av (intsP out).length cv) = v at h1
      rw [h2] at h1
      exact h1
    · have hb : ((f.to : Int) != (s : Int)) = true := by simp; omega
      have hj0 : 0 < j := by
        rcases Nat.eq_zero_or_pos j with h0 | h0
        · exfalso
          have h1 := HJ.out
          rw [h0, OK.out.head] at h1
          cases h1; exact hne rfl
        · exact h0
      obtain ⟨k2, g, h1, h2, h3, h4, h5, h6⟩ := OK.out.parent j f HJ.out hj0
      have HG := Lib.hid h3; have HFG := Lib.hid h4; have HPG := Lib.hid h5; have HKJ := Lib.hid h1
      have hlk := (hmw.run_lookup_hit (P := Try.prog) Try.underlying138 Try.underlying90 (parL_nodup OK.out.nodup) (parL_mem (List.mem_of_getElem? HJ.out))).2
      clear hne h1 h2 h3 h4 h5 h6 hj0
      have HB := Lib.hid (heap_alloc_new wr (.cells #[.int .u32 (f.frm : Int), .int .i64 (f.op : Int)] 137))
      have KA := Lib.hid ((Keeps.refl (fun _ => False) wr).alloc (.cells #[.int .u32 (f.frm : Int), .int .i64 (f.op : Int)] 137))
      go_upto_region 4 with fail
      generalize wr.alloc (.cells #[.int .u32 (f.frm : Int), .int .i64 (f.op : Int)] 137) = w3 at KA HB ⊢
      have c0 : w3.cell? ⟨wr.heap.size, 0, none⟩ = some (.int .u32 (f.frm : Int)) := by rw [cell_of_blk HB.out]; rfl
      have c1 : w3.cell? ⟨wr.heap.size, 1, none⟩ = some (.int .i64 (f.op : Int)) := by rw [cell_of_blk HB.out]; rfl
      have hO3 := KA.out.ownsRow HO.out (fun _ _ h => h)
      have hlen : (intsP out).length ≤ 100000 := by have := HJK.out; have := FEW.out; simp [intsP]; omega
      have hfew := FEW.out; have hs3 := KA.out.size; have hsw := KW.out.size
      go_wp2_with (at_builtin; refine wpList_append_d rfl _ _ _ rfl w.heap.size 3 i0 _ 1 8 Try.underlying22 hi0 hz0 hz1 hz2 rfl (by omega) _ (intsP out).length ((intsP out).map (Value.int .i64)) (by rfl) (World.ownsRow.alloc hO3 (.cells #[.int .i64 (f.op : Int)] 3)) ⟨w3.heap.size, 0, none⟩ 1 1 [.int .i64 (f.op : Int)] (by rfl) (by rfl) ?hnews ?hone (by omega) (by unfold maxLen; omega) (by omega) (by simp; omega) (w3.heap.size + 1) (by simp) ?_)
      case hnews => exact World.news_of_block (cs := #[.int .i64 (f.op : Int)]) (t := 3) (fr := (0, 0)) (heap_alloc_new _ _)
      case hone => simp [Value.oneCell']
      intro gg cap2 w4 hown hgrow hat hlt4 hd4
      have HN := Lib.hid (show w4.ownsRow w.heap.size 3 1 (.slice (some ⟨gg, 0, none⟩) ((intsP out).length + 1) cap2) (intsP (out ++ [f.op])).length ((intsP (out ++ [f.op])).map (Value.int .i64)) by
        have e1 : (intsP (out ++ [f.op])) = intsP out ++ [(f.op : Int)] := by simp [intsP]
        rw [e1, List.map_append, List.length_append]; exact hown)
      have HKN := Lib.hid (own_grown HO.out KW.out (KA.out.alloc (.cells #[.int .i64 (f.op : Int)] 3)) hgrow)
      have d0 : w4.cell? ⟨wr.heap.size, 0, none⟩ = some (.int .u32 (f.frm : Int)) := by
        have hb4 : w4.heap[wr.heap.size]? = _ := (steady_keeps hgrow).heap ((Below.heap_alloc w3 (.cells #[.int .i64 (f.op : Int)] 3) wr.heap.size (lt_of_heap HB.out)).trans HB.out) (fun e' => by have := (World.ownsRow.lt HO.out _ e').2; omega)
        rw [cell_of_blk hb4]; rfl
      clear hown hgrow hat hd4 c0 c1 hO3 hmw
      go_wp2_with fail
      go_roundw
      case rel =>
        refine ⟨k2, g, out ++ [f.op], HG.out, by have := HKJ.out; have := HJK.out; simp; omega, ?_, by rw [HFG.out], HN.out, HKN.out⟩
        rw [HP.out, HPG.out]; simp
      case measure =>
        have idx : ∀ (j : Nat) (x : Ent), T[j]? = some x → (keysT T).idxOf x.to = j := by
          intro j x hx
          have h1 : (keysT T)[j]? = some x.to := by unfold keysT; rw [List.getElem?_map, hx]; rfl
          obtain ⟨l1, g1⟩ := List.getElem?_eq_some_iff.1 h1
          rw [← g1]
          exact OK.out.nodup.idxOf_getElem j l1
        simp only [intOf, HFG.out, Int.toNat_natCast]
        rw [idx _ _ HG.out, idx _ _ HJ.out]
        exact HKJ.out

end Go.Proofs.Ytcfcmmajlkkabaa
