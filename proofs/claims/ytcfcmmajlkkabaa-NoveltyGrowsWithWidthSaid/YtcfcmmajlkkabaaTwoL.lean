/- Two rows of slices of ints, apart from each other; what the reference's Novelty needs in plain words. -/
import Derived.Test.YtcfcmmajlkkabaaNPlan
import Derived.Test.YtcfcmmajlkkabaaFresh
import Derived.Test.YtcfcmmajlkkabaaPlanL
namespace Go.Proofs.Ytcfcmmajlkkabaa
open Go.RowKit

structure TwoL (W : World) (B : Nat) (v1 v2 : Value) (l1 l2 : List (List Int)) (vs1 vs2 : List Value) : Prop where
  own1 : W.ownsRow B 22 1 v1 l1.length vs1
  own2 : W.ownsRow B 22 1 v2 l2.length vs2
  ap : ∀ k, v1.ownBlock = some k → v2.ownBlock ≠ some k
  st1 : ∀ (i : Nat) l, l1[i]? = some l → ∃ u, vs1[i]? = some u ∧ Ints W u l ∧ (0 < l.length → ∀ k, u.ownBlock = some k → v1.ownBlock ≠ some k ∧ v2.ownBlock ≠ some k)
  st2 : ∀ (i : Nat) l, l2[i]? = some l → ∃ u, vs2[i]? = some u ∧ Ints W u l ∧ (0 < l.length → ∀ k, u.ownBlock = some k → v2.ownBlock ≠ some k ∧ v1.ownBlock ≠ some k)

section
variable {W : World} {B : Nat} {v1 v2 : Value} {l1 l2 : List (List Int)} {vs1 vs2 : List Value}
theorem TwoL.symm (h : TwoL W B v1 v2 l1 l2 vs1 vs2) : TwoL W B v2 v1 l2 l1 vs2 vs1 := ⟨h.own2, h.own1, fun k hk e => h.ap k e hk, h.st2, h.st1⟩
theorem TwoL.keeps0 {W' : World} (h : TwoL W B v1 v2 l1 l2 vs1 vs2) (hk : Keeps (fun _ => False) W W') : TwoL W' B v1 v2 l1 l2 vs1 vs2 :=
  ⟨hk.ownsRow h.own1 (fun _ _ h => h), hk.ownsRow h.own2 (fun _ _ h => h), h.ap, fun i l hl => by
    obtain ⟨u, h1, h2, h3⟩ := h.st1 i l hl
    exact ⟨u, h1, h2.keeps0 hk, h3⟩, fun i l hl => by
    obtain ⟨u, h1, h2, h3⟩ := h.st2 i l hl
    exact ⟨u, h1, h2.keeps0 hk, h3⟩⟩
theorem TwoL.snoc1 {W8 : World} {v1' vn : Value} {l : List Int} (h : TwoL W B v1 v2 l1 l2 vs1 vs2) (hn : Ints W vn l) (hnb : 0 < l.length → ∀ k, vn.ownBlock = some k → v1.ownBlock ≠ some k ∧ v2.ownBlock ≠ some k)
    (K : Keeps (fun k => v1.ownBlock = some k) W W8) (ho : W8.ownsRow B 22 1 v1' (l1.length + 1) (vs1 ++ [vn])) (hg : ∀ k, v1'.ownBlock = some k → v1.ownBlock = some k ∨ W.heap.size ≤ k) :
    TwoL W8 B v1' v2 (l1 ++ [l]) l2 (vs1 ++ [vn]) vs2 := by
  have hl2 : ∀ k, v2.ownBlock = some k → k < W.heap.size := fun k hk => (World.ownsRow.lt h.own2 k hk).2
  have key : ∀ u l, Ints W u l → (0 < l.length → ∀ k, u.ownBlock = some k → v1.ownBlock ≠ some k ∧ v2.ownBlock ≠ some k) → Ints W8 u l ∧ (0 < l.length → ∀ k, u.ownBlock = some k → v1'.ownBlock ≠ some k ∧ v2.ownBlock ≠ some k) := by
    intro u l h1 h2
    refine ⟨h1.keepsS K (fun h0 k hk e => (h2 h0 k hk).1 e), fun h0 k hk => ⟨fun e => ?_, (h2 h0 k hk).2⟩⟩
    rcases hg k e with h4 | h4
    · exact (h2 h0 k hk).1 h4
    · have := Ints.lt h1 h0 k hk; omega
  have hvl : vs1.length = l1.length := by simpa using h.own1.1
  refine ⟨by rw [List.length_append]; exact ho, K.ownsRow h.own2 (fun k hk e => h.ap k e hk), fun k hk e => ?_, fun i x hx => ?_, fun i x hx => ?_⟩
  · rcases hg k hk with h4 | h4
    · exact h.ap k h4 e
    · have := hl2 k e; omega
  · by_cases hlt : i < l1.length
    · rw [List.getElem?_append_left hlt] at hx
      obtain ⟨u, h1, h2, h3⟩ := h.st1 i x hx
      exact ⟨u, by rw [List.getElem?_append_left (by omega)]; exact h1, key u x h2 h3⟩
    · have hil := (List.getElem?_eq_some_iff.1 hx).1
      have hi : i = l1.length := by simp at hil; omega
      subst hi
      rw [List.getElem?_append_right (Nat.le_refl _)] at hx
      simp at hx; subst hx
      exact ⟨vn, by rw [← hvl, List.getElem?_append_right (Nat.le_refl _)]; simp, key vn l hn hnb⟩
  · obtain ⟨u, h1, h2, h3⟩ := h.st2 i x hx
    obtain ⟨k1, k2⟩ := key u x h2 (fun h0 k hk => ⟨(h3 h0 k hk).2, (h3 h0 k hk).1⟩)
    exact ⟨u, h1, k1, fun h0 k hk => ⟨(k2 h0 k hk).2, (k2 h0 k hk).1⟩⟩
theorem TwoL.lists1 (h : TwoL W B v1 v2 l1 l2 vs1 vs2) : Lists W v1 l1 := by
  obtain ⟨ao, cap, hv, hm, hc⟩ := Sl.of_own h.own1
  refine ⟨ao, cap, hv, hm, fun h0 => ?_⟩
  obtain ⟨b, off, ha, hx⟩ := hc h0
  refine ⟨b, off, ha, fun i l hl => ?_⟩
  obtain ⟨u, h1, h2, _⟩ := h.st1 i l hl
  exact ⟨u, hx i u h1, h2⟩
theorem TwoL.cell1 {g n cap : Nat} (h : TwoL W B (.slice (some ⟨g, 0, none⟩) n cap) v2 l1 l2 vs1 vs2) {i : Nat} {u : Value} (hu : vs1[i]? = some u) : W.cell? ⟨g, i, none⟩ = some u := by
  have := World.ownsRow.cells h.own1 (g := g) rfl i u hu
  have hadd : (⟨g, 0, none⟩ : Addr).add i = ⟨g, i, none⟩ := by unfold Addr.add; split <;> simp_all
  rwa [hadd] at this
theorem TwoL.form1 (h : TwoL W B v1 v2 l1 l2 vs1 vs2) (h0 : 0 < l1.length) : ∃ g cap, v1 = .slice (some ⟨g, 0, none⟩) l1.length cap := by
  rcases h.own1.2 with ⟨_, h1⟩ | ⟨g, cap, cur, hv, _⟩
  · omega
  · exact ⟨g, cap, hv⟩
end

/-! ### plain -/
theorem PTree.path_le {ops : List Wop} {s : Nat} {T : List Ent} (h : PTree ops s T) : ∀ (j : Nat) e, T[j]? = some e → e.path.length ≤ j := by
  intro j
  induction j using Nat.strongRecOn with
  | _ j ih =>
    intro e he
    rcases Nat.eq_zero_or_pos j with rfl | hp
    · rw [h.head] at he; cases he; simp
    · obtain ⟨k, f, hk, _, hf, _, hpath, _⟩ := h.parent j e he hp
      have := ih k hk f hf
      rw [hpath, List.length_append]; simp; omega

theorem placeL_at {ls : List (List Int)} {s : List Int} (h : s ∈ ls) : ∃ k : Nat, placeL ls s = (k : Int) := by
  unfold placeL
  cases hf : ls.findIdx? (fun l => l == s) with
  | some k => exact ⟨k, rfl⟩
  | none => rw [List.findIdx?_eq_none_iff] at hf; have := hf s h; simp at this
theorem placeL_not {ls : List (List Int)} {s : List Int} (h : s ∉ ls) : placeL ls s = -1 := by
  unfold placeL
  rw [List.findIdx?_eq_none_iff.2 (fun l hl => by simp; rintro rfl; exact h hl)]

theorem good_inj {n : Int} {x y : Nat} (hx : Good n x) (hy : Good n y) (h : facts x = facts y) : x = y := by rw [← hx.2, ← hy.2, h]
theorem good_lt {n : Int} (hn : n ≤ 32) {x : Nat} (hx : Good n x) : x < 4294967296 := by
  have := wd_lt32 hn hx.1
  rw [hx.2] at this; exact this
theorem mem_factsL {n : Int} {ks : List Nat} (hk : ∀ x ∈ ks, Good n x) {y : Nat} (hy : Good n y) : facts y ∈ ks.map facts ↔ y ∈ ks := by
  constructor
  · intro h
    obtain ⟨x, hx, he⟩ := List.mem_map.1 h
    rw [← good_inj (hk x hx) hy he]; exact hx
  · exact fun h => List.mem_map.2 ⟨y, h, rfl⟩
theorem accW_sub {t : Tsk} (ok : t.Ok) {x : Nat} (hx : Good t.n x) : subB t.goal (facts x) = accW (wd t.goal) x := by
  have h1 : subB t.goal (facts x) = goalB (wd t.goal) x := goalW_goalB ok hx
  have h2 := goal_bits (good_lt (by have := ok.n1; omega) hx) (wd_lt32 (by have := ok.n1; omega : t.n ≤ 32) ok.goal)
  rw [h1, ← h2]; rfl
theorem fresh_word {n : Int} (hn : n ≤ 32) {ks : List Nat} (hk : ∀ x ∈ ks, Good n x) {y : Nat} (hy : Good n y) (k : Nat) : freshL (ks.map facts) (facts y) k [] = !covW k y ks := by
  have h := fresh_cov (ls := ks.map facts) (s := facts y) (isSet_mono hy.1 hn) (fun l hl => by obtain ⟨x, hx, rfl⟩ := List.mem_map.1 hl; exact isSet_mono (hk x hx).1 hn) k
  rw [h, hy.2, List.map_map]
  have e : ks.map (wd ∘ facts) = ks := by
    have : ks.map (wd ∘ facts) = ks.map id := List.map_congr_left (fun x hx => (hk x hx).2)
    rw [this, List.map_id]
  rw [e]; rfl

def pathsT (T : List Ent) : List (List Int) := T.map fun e => intsP e.path
def factsT (T : List Ent) : List (List Int) := (keysT T).map facts
theorem factsT_len (T : List Ent) : (factsT T).length = T.length := by unfold factsT keysT; simp
theorem pathsT_len (T : List Ent) : (pathsT T).length = T.length := by unfold pathsT; simp
theorem factsT_get {T : List Ent} {i : Nat} {e : Ent} (h : T[i]? = some e) : (factsT T)[i]? = some (facts e.to) := by unfold factsT keysT; rw [List.getElem?_map, List.getElem?_map, h]; rfl
theorem pathsT_get {T : List Ent} {i : Nat} {e : Ent} (h : T[i]? = some e) : (pathsT T)[i]? = some (intsP e.path) := by unfold pathsT; rw [List.getElem?_map, h]; rfl
theorem factsT_snoc (T : List Ent) (e : Ent) : factsT (T ++ [e]) = factsT T ++ [facts e.to] := by unfold factsT keysT; simp
theorem pathsT_snoc (T : List Ent) (e : Ent) : pathsT (T ++ [e]) = pathsT T ++ [intsP e.path] := by unfold pathsT; simp
theorem intsP_snoc (p : List Nat) (o : Nat) : intsP (p ++ [o]) = intsP p ++ [(o : Int)] := by unfold intsP; simp
theorem intsP_len (p : List Nat) : (intsP p).length = p.length := by unfold intsP; simp

end Go.Proofs.Ytcfcmmajlkkabaa
