/- diagram.Store: both (And and Or). diagram.Store: And, Or, Literal. Words of facts: space.Word, space.Facts, the reference's Word. strips.Validate. space.Of: the words of a task. The reference's ReachedFrom: the breadth-first list of states. (*space.Words).Start, Goal, Steps, and the iterator that Steps returns. The tree of a breadth-first search and the least of the shortest plans. Nothing here speaks of one program. The plain law of the reference's arcs, steps to go and shortest ways. Nothing here speaks of one program. Slices of slices, slices of arcs; the reference's Place, Goals, StateOk, Reached, Explored. The reference's Arcs. No condition beyond what each theorem says. -/
import Derived.Test.YtjcgkmodmjckjaaGreatQ2
import Derived.Test.YtjcgkmodmjckjaaGreatQ1
import Derived.RangeFuncNested
import Derived.RangeFuncBound
import Derived.RangeFuncCalls
import Derived.RangeFuncLeaves
import Derived.Shelf.Abstract
import Derived.Shelf.RegionOpen
import Derived.OwnWalkIn
import Derived.TacticsInMore
import Derived.LoopNIn
import Derived.LoopIn
import Derived.IntWalk

namespace Go.Proofs.YtjcgkmodmjckjaaGreat
open Go.RowKit

theorem opB_comm (op : Nat) (x y : Bool) : opB op x y = opB op y x := by unfold opB; cases x <;> cases y <;> rfl
theorem lev_side {L : Nat} {N : List Dn} (ok : DgOk L N) {a b : Nat} (ha : a < N.length + 2) (h2 : ¬ a < 2) : min (lev L N a) (lev L N b) < L := by
  obtain ⟨i, rfl⟩ : ∃ i, a = i + 2 := ⟨a - 2, by omega⟩
  have := ok.lv i _ (List.getElem?_eq_getElem (by omega))
  rw [lev_node (List.getElem?_eq_getElem (by omega))]
  omega
/-- What an operation may cost at most: `C l` nodes where the pair's level is l, for pairs of the kind Q. -/
structure CostQ (L : Nat) (C : Nat → Nat) (Q : List Dn → Nat → Nat → Prop) : Prop where
  sym : ∀ {N : List Dn} {a b : Nat}, Q N a b → Q N b a
  anti : ∀ {a b : Nat}, a ≤ b → C b ≤ C a
  grow : ∀ {N N' : List Dn} {a b : Nat}, DgOk L N → DgLe N N' → a < N.length + 2 → b < N.length + 2 → Q N a b → Q N' a b
  step : ∀ {N : List Dn} {a b : Nat}, DgOk L N → a < N.length + 2 → b < N.length + 2 → ¬ a < 2 → ¬ b < 2 → Q N a b → ∀ l, l = min (lev L N a) (lev L N b) →
    C (l + 1) + C (l + 1) + nb l ≤ C l ∧ Q N (sideN L N a l).1 (sideN L N b l).1 ∧ Q N (sideN L N a l).2 (sideN L N b l).2
theorem CostQ.all (L : Nat) : CostQ L (lowB L) (fun _ _ _ => True) :=
  ⟨fun _ => trivial, fun h => lowB_anti h, fun _ _ _ _ _ => trivial, fun ok ha hb ha2 hb2 _ l hl => ⟨lowB_step (by rw [hl]; exact lev_side ok ha ha2), trivial, trivial⟩⟩
/-- A literal of p, or what is left of it below. -/
def LitN (N : List Dn) (p k : Nat) : Prop := k < 2 ∨ ∃ n, N[k - 2]? = some n ∧ n.lv = p ∧ n.lo < 2 ∧ n.hi < 2
def litB (L p l : Nat) : Nat := 2 ^ (min (min L 19) (p + 1) - l) - 1
theorem litB_step {L p l : Nat} (hl : l < L) (hp : l ≤ p) : litB L p (l + 1) + litB L p (l + 1) + nb l ≤ litB L p l := by
  unfold litB nb
  by_cases h : l < 19
  · rw [if_pos h]
    obtain ⟨d, hd⟩ : ∃ d, min (min L 19) (p + 1) - l = d + 1 := ⟨min (min L 19) (p + 1) - l - 1, by omega⟩
    rw [show min (min L 19) (p + 1) - (l + 1) = d from by omega, hd, Nat.pow_succ]
    have := Nat.pow_pos (n := d) (show 0 < 2 from by omega)
    omega
  · rw [if_neg h, show min (min L 19) (p + 1) - (l + 1) = 0 from by omega]
    simp
theorem litB_anti {L p a b : Nat} (h : a ≤ b) : litB L p b ≤ litB L p a := by
  unfold litB
  have := Nat.pow_le_pow_right (show 0 < 2 from by omega) (show min (min L 19) (p + 1) - b ≤ min (min L 19) (p + 1) - a from by omega)
  omega
theorem LitN.side {L : Nat} {N : List Dn} {p k l : Nat} (h : LitN N p k) (hk2 : ¬ k < 2) (hl : l ≤ lev L N k) : l ≤ p ∧ LitN N p (sideN L N k l).1 ∧ LitN N p (sideN L N k l).2 := by
  rcases h with h | ⟨n, hn, rfl, h1, h2⟩
  · exact absurd h hk2
  · have e : lev L N k = n.lv := by rw [← lev_node (L := L) hn]; congr 1; omega
    refine ⟨by omega, ?_⟩
    unfold sideN
    by_cases hlt : l < lev L N k
    · rw [if_pos hlt]; exact ⟨.inr ⟨n, hn, rfl, h1, h2⟩, .inr ⟨n, hn, rfl, h1, h2⟩⟩
    · rw [if_neg hlt, hn]; exact ⟨.inl h1, .inl h2⟩
theorem CostQ.lit (L p : Nat) : CostQ L (litB L p) (fun N a b => LitN N p a ∨ LitN N p b) := by
  refine ⟨fun h => h.symm, fun h => litB_anti h, fun _ hle ha hb h => ?_, fun ok ha hb ha2 hb2 h l hl => ?_⟩
  · rcases h with (h | ⟨n, hn, h⟩) | (h | ⟨n, hn, h⟩)
    · exact .inl (.inl h)
    · exact .inl (.inr ⟨n, hle.get hn, h⟩)
    · exact .inr (.inl h)
    · exact .inr (.inr ⟨n, hle.get hn, h⟩)
  · have hL : l < L := by rw [hl]; exact lev_side ok ha ha2
    rcases h with h | h
    · obtain ⟨h1, h2, h3⟩ := h.side (L := L) (l := l) ha2 (by omega)
      exact ⟨litB_step hL h1, .inl h2, .inl h3⟩
    · obtain ⟨h1, h2, h3⟩ := h.side (L := L) (l := l) hb2 (by omega)
      exact ⟨litB_step hL h1, .inr h2, .inr h3⟩
theorem DgPost.min {L : Nat} {N N' : List Dn} {k l l' : Nat} {S : Nat → Bool} (h : DgPost L N N' k (lowB L l) l S) (hl : l' ≤ l) : DgPost L N N' k (lowB L l') l' S := h.weak (lowB_anti hl) hl (fun _ => rfl)
theorem both_step {L : Nat} {N N1 N2 N3 : List Dn} (ok : DgOk L N) {C : Nat → Nat} {a b l op k1 k2 k : Nat} (ha : a < N.length + 2) (hb : b < N.length + 2) (hl : l = min (lev L N a) (lev L N b)) (hL : l < L) (hst : C (l + 1) + C (l + 1) + nb l ≤ C l)
    (p1 : DgPost L N N1 k1 (C (l + 1)) (l + 1) (fun m => opB op (dv N (sideN L N a l).1 m) (dv N (sideN L N b l).1 m)))
    (p2 : DgPost L N1 N2 k2 (C (l + 1)) (l + 1) (fun m => opB op (dv N1 (sideN L N a l).2 m) (dv N1 (sideN L N b l).2 m)))
    (p3 : DgPost L N2 N3 k (nb l) l (fun m => dv N2 (if m.testBit l then k2 else k1) m)) :
    DgPost L N N3 k (C l) l (fun m => opB op (dv N a m) (dv N b m)) ∧ PairOk L N3 op a b k := by
  obtain ⟨a1, a2, _, _, _, _, a7⟩ := side_ok ok ha (by omega) hL (l := l)
  obtain ⟨b1, b2, _, _, _, _, b7⟩ := side_ok ok hb (by omega) hL (l := l)
  have hle := (p1.le.trans p2.le).trans p3.le
  have hval : ∀ m, dv N3 k m = opB op (dv N a m) (dv N b m) := fun m => by
    rw [p3.val, a7, b7]
    cases hm : m.testBit l with
    | true =>
      simp only [if_true]
      rw [p2.val, p1.le.dv ok a2, p1.le.dv ok b2]
    | false =>
      simp only [Bool.false_eq_true, if_false]
      rw [p2.le.dv p1.ok p1.lt, p1.val]
  have hlev : l ≤ lev L N3 k := p3.lev
  refine ⟨⟨hle, p3.ok, p3.lt, hval, hlev, ?_⟩, ⟨Nat.lt_of_lt_of_le ha (by have := hle.len; omega), Nat.lt_of_lt_of_le hb (by have := hle.len; omega), p3.lt, ?_, fun m => ?_⟩⟩
  · have h1 := p1.cnt; have h2 := p2.cnt; have h3 := p3.cnt; omega
  · rw [hle.lev ha, hle.lev hb, ← hl]; exact hlev
  · rw [hval, hle.dv ok ha, hle.dv ok hb]
theorem DgM.putp {w w' : World} {sb mf mp L : Nat} {N : List Dn} {v : Value} {fm pm : K3 → Option Nat} {op a b k : Nat} (h : DgM w sb mf mp L N v fm pm) (hm : TMap w' mp (put3 pm (op, a, b) k)) (hk : Keeps (fun j => j = mp) w w') (hp : PairOk L N op a b k) : DgM w' sb mf mp L N v fm (put3 pm (op, a, b) k) :=
  ⟨hk.heap h.blk (fun e => h.ne.2.1 e.symm), heap_row h.row hk (fun k hk e => (h.row_ne k hk).2.2.1 e), h.f.keeps hk h.fp, hm, h.fp, h.ok, h.fok, fun op' a' b' k' hq => by
    unfold put3 at hq
    by_cases he : (op', a', b') = (op, a, b)
    · rw [if_pos he] at hq; cases hq
      simp only [Prod.mk.injEq] at he
      obtain ⟨rfl, rfl, rfl⟩ := he
      exact hp
    · rw [if_neg he] at hq; exact h.pok _ _ _ _ hq⟩
theorem news {G G' G'' : Nat → Prop} {w w' : World} (h : ∀ q, G' q → G q ∨ w.heap.size ≤ q) (h' : ∀ q, G'' q → G' q ∨ w'.heap.size ≤ q) (hs : w.heap.size ≤ w'.heap.size) : ∀ q, G'' q → G q ∨ w.heap.size ≤ q := fun q hq => by
  rcases h' q hq with h1 | h1
  · exact h q h1
  · exact .inr (Nat.le_trans hs h1)
/-- The claim for one pair, given that for the pairs below. -/
def BothAt (L op : Nat) (C : Nat → Nat) (Q : List Dn → Nat → Nat → Prop) (d : Nat) : Prop := ∀ (w : World) (sb : Nat) (N : List Dn) (G : Nat → Prop) (a b l : Nat) (S : Nat → Bool), Dg w sb L N G → Q N a b → a < N.length + 2 → b < N.length + 2 → l = min (lev L N a) (lev L N b) → (∀ m, S m = opB op (dv N a m) (dv N b m)) → L - l ≤ d → low N + C l ≤ 5800000000000 →
    Calls Tryz.prog 65 #[.pointer (some ⟨sb, 0, none⟩), .int .i64 (op : Int), .int .i64 (a : Int), .int .i64 (b : Int)] w (DgR w sb L N G (C l) l S)

set_option maxRecDepth 100000 in
set_option maxHeartbeats 4000000 in
theorem both_body (L op : Nat) (hL : L ≤ 24) (hop : op = 0 ∨ op = 1) (C : Nat → Nat) (Q : List Dn → Nat → Nat → Prop) (hC : CostQ L C Q) (d : Nat) (ih : ∀ d', d' + 1 = d → BothAt L op C Q d') : BothAt L op C Q d := by
  intro w sb N G a b l S h hQ ha hb hl hS hd hbig
  have HD := Lib.hid h
  have ok := h.ok
  have hin : ∀ q, G q → G q ∨ w.heap.size ≤ q := fun q h => .inl h
  by_cases hab : a = b
  · subst hab
    have q1 : ((a : Int) == (a : Int)) = true := by simp
    have HR := Lib.hid (show DgPost L N N a (C l) l S from .same ok (by omega) (fun m => by rw [hS]; unfold opB; rcases hop with rfl | rfl <;> simp) (by omega))
    clear ok ha hb hl hS hd hbig h ih hL hQ hC
    go_enter Tryz.func65, Tryz.ntmps65
    go_wp2_with fail
    go_ret
    exact ⟨_, N, G, rfl, HR.out, HD.out, Keeps.refl _ _, hin⟩
  have q1 : ((a : Int) == (b : Int)) = false := by simp; omega
  have hz0 : ∀ m, dv N 0 m = false := fun m => dv_zero m
  have hz1 : ∀ m, dv N 1 m = true := fun m => dv_one m
  have hl0 : lev L N 0 = L := lev_lt (by omega)
  have hl1 : lev L N 1 = L := lev_lt (by omega)
  have hla := ok.lev_le a
  have hlb := ok.lev_le b
  by_cases ha2 : a < 2
  · by_cases hb2 : b < 2
    · have hc : (a = 0 ∧ b = 1) ∨ (a = 1 ∧ b = 0) := by omega
      rcases hc with ⟨rfl, rfl⟩ | ⟨rfl, rfl⟩ <;> rcases hop with rfl | rfl
      ·

        have HR := Lib.hid (show DgPost L N N 0 (C l) l S from .same ok (by omega) (fun m => by rw [hS]; rw [hz0, hz1]; rfl) (by simp only [hl0, hl1] at hl ⊢; omega))
        clear ok ha hb hl hS hd hbig h ih hL hQ hC
        go_enter Tryz.func65, Tryz.ntmps65
        go_wp2_with fail
        go_ret
        exact ⟨_, N, G, rfl, HR.out, HD.out, Keeps.refl _ _, hin⟩
      ·

        have HR := Lib.hid (show DgPost L N N 1 (C l) l S from .same ok (by omega) (fun m => by rw [hS]; rw [hz0, hz1]; rfl) (by simp only [hl0, hl1] at hl ⊢; omega))
        clear ok ha hb hl hS hd hbig h ih hL hQ hC
        go_enter Tryz.func65, Tryz.ntmps65
        go_wp2_with fail
        go_ret
        exact ⟨_, N, G, rfl, HR.out, HD.out, Keeps.refl _ _, hin⟩
      ·

        have HR := Lib.hid (show DgPost L N N 0 (C l) l S from .same ok (by omega) (fun m => by rw [hS]; rw [hz0, hz1]; rfl) (by simp only [hl0, hl1] at hl ⊢; omega))
        clear ok ha hb hl hS hd hbig h ih hL hQ hC
        go_enter Tryz.func65, Tryz.ntmps65
        go_wp2_with fail
        go_ret
        exact ⟨_, N, G, rfl, HR.out, HD.out, Keeps.refl _ _, hin⟩
      ·

        have HR := Lib.hid (show DgPost L N N 1 (C l) l S from .same ok (by omega) (fun m => by rw [hS]; rw [hz0, hz1]; rfl) (by simp only [hl0, hl1] at hl ⊢; omega))
        clear ok ha hb hl hS hd hbig h ih hL hQ hC
        go_enter Tryz.func65, Tryz.ntmps65
        go_wp2_with fail
        go_ret
        exact ⟨_, N, G, rfl, HR.out, HD.out, Keeps.refl _ _, hin⟩
    · have q2 : decide ((b : Int) < 2) = false := by simp; omega
      have hc : a = 0 ∨ a = 1 := by omega
      rcases hc with rfl | rfl <;> rcases hop with rfl | rfl
      ·

        have HR := Lib.hid (show DgPost L N N 0 (C l) l S from .same ok (by omega) (fun m => by rw [hS]; rw [hz0]; rfl) (by first | omega | (simp only [hl0, hl1] at hl ⊢; omega)))
        clear ok ha hb hl hS hd hbig h ih hL hQ hC
        go_enter Tryz.func65, Tryz.ntmps65
        go_wp2_with fail
        go_ret
        exact ⟨_, N, G, rfl, HR.out, HD.out, Keeps.refl _ _, hin⟩
      ·

        have HR := Lib.hid (show DgPost L N N b (C l) l S from .same ok (by omega) (fun m => by rw [hS]; rw [hz0]; rfl) (by first | omega | (simp only [hl0, hl1] at hl ⊢; omega)))
        clear ok ha hb hl hS hd hbig h ih hL hQ hC
        go_enter Tryz.func65, Tryz.ntmps65
        go_wp2_with fail
        go_ret
        exact ⟨_, N, G, rfl, HR.out, HD.out, Keeps.refl _ _, hin⟩
      ·

        have HR := Lib.hid (show DgPost L N N b (C l) l S from .same ok (by omega) (fun m => by rw [hS]; rw [hz1]; rfl) (by first | omega | (simp only [hl0, hl1] at hl ⊢; omega)))
        clear ok ha hb hl hS hd hbig h ih hL hQ hC
        go_enter Tryz.func65, Tryz.ntmps65
        go_wp2_with fail
        go_ret
        exact ⟨_, N, G, rfl, HR.out, HD.out, Keeps.refl _ _, hin⟩
      ·

        have HR := Lib.hid (show DgPost L N N 1 (C l) l S from .same ok (by omega) (fun m => by rw [hS]; rw [hz1]; rfl) (by first | omega | (simp only [hl0, hl1] at hl ⊢; omega)))
        clear ok ha hb hl hS hd hbig h ih hL hQ hC
        go_enter Tryz.func65, Tryz.ntmps65
        go_wp2_with fail
        go_ret
        exact ⟨_, N, G, rfl, HR.out, HD.out, Keeps.refl _ _, hin⟩
  · have q3 : decide ((a : Int) < 2) = false := by simp; omega
    by_cases hb2 : b < 2
    · have hc : b = 0 ∨ b = 1 := by omega
      rcases hc with rfl | rfl <;> rcases hop with rfl | rfl
      ·

        have HR := Lib.hid (show DgPost L N N 0 (C l) l S from .same ok (by omega) (fun m => by rw [hS]; rw [opB_comm, hz0]; rfl) (by first | omega | (simp only [hl0, hl1] at hl ⊢; omega)))
        clear ok ha hb hl hS hd hbig h ih hL hQ hC
        go_enter Tryz.func65, Tryz.ntmps65
        go_wp2_with fail
        go_ret
        exact ⟨_, N, G, rfl, HR.out, HD.out, Keeps.refl _ _, hin⟩
      ·

        have HR := Lib.hid (show DgPost L N N a (C l) l S from .same ok (by omega) (fun m => by rw [hS]; rw [opB_comm, hz0]; rfl) (by first | omega | (simp only [hl0, hl1] at hl ⊢; omega)))
        clear ok ha hb hl hS hd hbig h ih hL hQ hC
        go_enter Tryz.func65, Tryz.ntmps65
        go_wp2_with fail
        go_ret
        exact ⟨_, N, G, rfl, HR.out, HD.out, Keeps.refl _ _, hin⟩
      ·

        have HR := Lib.hid (show DgPost L N N a (C l) l S from .same ok (by omega) (fun m => by rw [hS]; rw [opB_comm, hz1]; rfl) (by first | omega | (simp only [hl0, hl1] at hl ⊢; omega)))
        clear ok ha hb hl hS hd hbig h ih hL hQ hC
        go_enter Tryz.func65, Tryz.ntmps65
        go_wp2_with fail
        go_ret
        exact ⟨_, N, G, rfl, HR.out, HD.out, Keeps.refl _ _, hin⟩
      ·

        have HR := Lib.hid (show DgPost L N N 1 (C l) l S from .same ok (by omega) (fun m => by rw [hS]; rw [opB_comm, hz1]; rfl) (by first | omega | (simp only [hl0, hl1] at hl ⊢; omega)))
        clear ok ha hb hl hS hd hbig h ih hL hQ hC
        go_enter Tryz.func65, Tryz.ntmps65
        go_wp2_with fail
        go_ret
        exact ⟨_, N, G, rfl, HR.out, HD.out, Keeps.refl _ _, hin⟩
    · have q4 : decide ((b : Int) < 2) = false := by simp; omega
      clear hz0 hz1 hl0 hl1 hla hlb
      have hlL : l < L := by rw [hl]; exact lev_side ok ha ha2
      go_enter Tryz.func65, Tryz.ntmps65
      go_upto_region 9 with fail
      iterate 11 go_step
      rename_i hkont
      refine hkont _ _ ?_
      clear hkont
      go_cut [2, 3] from 9 (fun s2 s3 wc => wc = w ∧ ∃ x y : Nat, s2 = .int .i64 (x : Int) ∧ s3 = .int .i64 (y : Int) ∧ (x = a ∧ y = b ∨ x = b ∧ y = a))
      case first =>
        clear ok ha hb hl hS hd hbig h ih hL ha2 hb2 hab hQ hC
        go_wp2
        · go_meet
          case rel => exact ⟨rfl, b, a, rfl, rfl, .inr ⟨rfl, rfl⟩⟩
        · go_meet
          case rel => exact ⟨rfl, a, b, rfl, rfl, .inl ⟨rfl, rfl⟩⟩
      case rest =>
        obtain ⟨rfl, x, y, rfl, rfl, hxy⟩ := hcut
        obtain ⟨hx, hy, hl', hS', hst, hq1, hq2⟩ : x < N.length + 2 ∧ y < N.length + 2 ∧ l = min (lev L N x) (lev L N y) ∧ (∀ m, S m = opB op (dv N x m) (dv N y m)) ∧ C (l + 1) + C (l + 1) + nb l ≤ C l ∧ Q N (sideN L N x l).1 (sideN L N y l).1 ∧ Q N (sideN L N x l).2 (sideN L N y l).2 := by
          rcases hxy with ⟨rfl, rfl⟩ | ⟨rfl, rfl⟩
          · exact ⟨ha, hb, hl, hS, hC.step ok ha hb ha2 hb2 hQ l hl⟩
          · have hl2 : l = min (lev L N x) (lev L N y) := by rw [hl, Nat.min_comm]
            exact ⟨hb, ha, hl2, fun m => by rw [hS, opB_comm], hC.step ok hb ha hb2 ha2 (hC.sym hQ) l hl2⟩
        have HCQ := Lib.hid hC; have HST := Lib.hid hst; have HQ1 := Lib.hid hq1; have HQ2 := Lib.hid hq2
        clear hst hq1 hq2 hQ hC
        have HX := Lib.hid hx; have HY := Lib.hid hy; have HL := Lib.hid hl'; have HS := Lib.hid hS'; have HLL := Lib.hid hlL; have HBIG := Lib.hid hbig; have HIH := Lib.hid ih; have HDD := Lib.hid hd; have HL24 := Lib.hid hL
        clear hxy ha hb hl hS hx hy hl' hS' hlL hbig ih hd hL ok h ha2 hb2 hab q1 q3 q4
        obtain ⟨mf, mp, v, fm, pm, hm, hq, hbd⟩ := HD.out
        have KA := (Keeps.refl (fun _ => False) wc).alloc (.cells #[.int .i64 (op : Int), .int .i64 (x : Int), .int .i64 (y : Int)] 164)
        have HKA := Lib.hid KA; have HQ := Lib.hid hq
        have HBX := Lib.hid (show ¬ G wc.heap.size from fun h => by have := hbd _ h; omega)
        have HM := Lib.hid (hm.keeps KA (fun h => h) (fun h => h) (fun h => h) (fun _ _ h => h))
        have HXB := Lib.hid (heap_alloc_new wc (.cells #[.int .i64 (op : Int), .int .i64 (x : Int), .int .i64 (y : Int)] 164))
        have HBD := Lib.hid hbd
        clear KA hm hq hbd
        go_upto_region 12 with fail
        generalize (wc.alloc (.cells #[.int .i64 (op : Int), .int .i64 (x : Int), .int .i64 (y : Int)] 164)) = w1 at HKA HM HXB ⊢
        generalize wc.heap.size = bx at HBX HXB ⊢
        have hb := HM.out.blk
        have c3 : w1.cell? ⟨sb, 3, none⟩ = some (.map (some mp)) := by simp [World.cell?, hb]
        have hlt := lt_of_heap hb
        have x0 : w1.cell? ⟨bx, 0, none⟩ = some (.int .i64 (op : Int)) := by simp [World.cell?, HXB.out]
        have x1 : w1.cell? ⟨bx, 1, none⟩ = some (.int .i64 (x : Int)) := by simp [World.cell?, HXB.out]
        have x2 : w1.cell? ⟨bx, 2, none⟩ = some (.int .i64 (y : Int)) := by simp [World.cell?, HXB.out]
        have xl := lt_of_heap HXB.out
        clear hb
        have hz : ∀ w : World, (zeroValue 3).run Tryz.prog w = .ok (.int .i64 0) w := fun w => by kernel_rfl
        cases hf : pm (op, x, y) with
        | some k =>
          have hlk : ∀ nd, (Instr.lookup 104 (.map (some mp)) (.agg #[.int .i64 (op : Int), .int .i64 (x : Int), .int .i64 (y : Int)]) true).run Tryz.prog (w1.drewN nd) = .ok (.tuple #[.int .i64 (k : Int), .bool true]) (w1.drewN nd) := fun nd =>
            (HM.out.p.keeps ((Keeps.refl (fun _ => False) w1).drewN nd) (fun h => h)).look_some Tryz.underlying104 key3_arr hf
          have HF := Lib.hid (HM.out.pok _ _ _ _ hf)
          clear hf
          go_quiet (fail)
          go_wp2_with fail
          go_ret
          have hp := HF.out
          exact ⟨k, N, G, rfl, .same HM.out.ok hp.lk (fun m => by rw [hp.val, HS.out]) (by rw [HL.out]; exact hp.lev), ⟨mf, mp, v, fm, pm, HM.out.keeps ((Keeps.refl (fun _ => False) w1).drewN _) (fun h => h) (fun h => h) (fun h => h) (fun _ _ h => h), HQ.out, fun q h => Nat.lt_of_lt_of_le (HBD.out q h) HKA.out.size⟩, (HKA.out.drewN _).mono (fun _ _ h => h.elim), hin⟩
        | none =>
          have hlk : ∀ nd, (Instr.lookup 104 (.map (some mp)) (.agg #[.int .i64 (op : Int), .int .i64 (x : Int), .int .i64 (y : Int)]) true).run Tryz.prog (w1.drewN nd) = .ok (.tuple #[.int .i64 0, .bool false]) (w1.drewN nd) := fun nd =>
            (HM.out.p.keeps ((Keeps.refl (fun _ => False) w1).drewN nd) (fun h => h)).look_none Tryz.underlying104 key3_arr (hz _) hf
          clear hf
          go_quiet (fail)
          have KD := (Keeps.refl (fun _ => False) w1).drewN nq
          have HM2 := Lib.hid (HM.out.keeps KD (fun h => h) (fun h => h) (fun h => h) (fun _ _ h => h)); have HXB2 := Lib.hid (KD.heap HXB.out (fun h => h)); have HK2 := Lib.hid (HKA.out.trans KD)
          have HB2 := Lib.hid (show ∀ k, G k → k < (w1.drewN nq).heap.size from fun q h => Nat.lt_of_lt_of_le (HBD.out q h) HKA.out.size)
          clear KD HM HXB HKA hlk c3 hlt x0 x1 x2 xl
          go_upto_region 15 with fail
          generalize w1.drewN nq = w2 at HM2 HXB2 HK2 HB2 ⊢
          go_wp2_with fail
          refine (level_any w2 sb mf mp L N v fm pm x HM2.out HX.out).mono ?_; rintro en w3 ⟨rfl, rfl⟩
          go_wp2_with fail
          refine (level_any w3 sb mf mp L N v fm pm y HM2.out HY.out).mono ?_; rintro en w2 ⟨rfl, rfl⟩
          have hlx : l ≤ lev L N x := by rw [HL.out]; omega
          have hly : l ≤ lev L N y := by rw [HL.out]; omega
          go_upto_region 16 with fail
          first
            | rw [show (if lev L N y < lev L N x then ((lev L N y : Nat) : Int) else ((lev L N x : Nat) : Int)) = (l : Int) from by rw [HL.out]; split <;> omega]
            | rw [show (min ((lev L N x : Nat) : Int) ((lev L N y : Nat) : Int)) = (l : Int) from by rw [HL.out]; omega]
          go_wp2_with fail
          refine (sides_any w2 sb mf mp L N v fm pm x l HM2.out HX.out hlx HLL.out).mono ?_; rintro en w3 ⟨rfl, hk⟩
          have HM3 := Lib.hid (HM2.out.keeps hk (fun h => h) (fun h => h) (fun h => h) (fun _ _ h => h)); have HXB3 := Lib.hid (hk.heap HXB2.out (fun h => h)); have HK3 := Lib.hid (HK2.out.trans hk)
          have HB3 := Lib.hid (show ∀ k, G k → k < w3.heap.size from fun q h => Nat.lt_of_lt_of_le (HB2.out q h) hk.size)
          clear hk HM2 HXB2 HK2 HB2
          go_wp2_with fail
          refine (sides_any w3 sb mf mp L N v fm pm y l HM3.out HY.out hly HLL.out).mono ?_; rintro en w4 ⟨rfl, hk⟩
          have HM4 := Lib.hid (HM3.out.keeps hk (fun h => h) (fun h => h) (fun h => h) (fun _ _ h => h)); have HXB4 := Lib.hid (hk.heap HXB3.out (fun h => h)); have HK4 := Lib.hid (HK3.out.trans hk)
          have HB4 := Lib.hid (show ∀ k, G k → k < w4.heap.size from fun q h => Nat.lt_of_lt_of_le (HB3.out q h) hk.size)
          clear hk HM3 HXB3 HK3 HB3
          have HD4 := Lib.hid (show Dg w4 sb L N G from ⟨mf, mp, v, fm, pm, HM4.out, HQ.out, HB4.out⟩)
          have HSX := Lib.hid (side_ok HM4.out.ok HX.out hlx HLL.out); have HSY := Lib.hid (side_ok HM4.out.ok HY.out hly HLL.out)
          have HOK := Lib.hid HM4.out.ok
          clear hlx hly HM4 HQ HB4 HBD
          go_wp2_with fail
          obtain ⟨d', rfl⟩ : ∃ d', d = d' + 1 := ⟨d - 1, by have := HDD.out; have := HLL.out; omega⟩
          have IH := Lib.hid (HIH.out d' rfl)
          clear HIH
          refine (IH.out w4 sb N G (sideN L N x l).1 (sideN L N y l).1 _ _ HD4.out HQ1.out HSX.out.1 HSY.out.1 rfl (fun m => rfl) (by have := HSX.out.2.2.1; have := HSY.out.2.2.1; have := HDD.out; have := HLL.out; omega) (by
            have h1 := HSX.out.2.2.1; have h2 := HSY.out.2.2.1; have h3 := HBIG.out; have h4 := HST.out
            have h5 : C (min (lev L N (sideN L N x l).1) (lev L N (sideN L N y l).1)) ≤ C (l + 1) := HCQ.out.anti (by omega)
            omega)).mono ?_
          rintro en w5 ⟨k1, N1, G1, rfl, hp1, hd1, hk1, hn1⟩
          have HP1 := Lib.hid (hp1.weak (HCQ.out.anti (a := l + 1) (by have h1 := HSX.out.2.2.1; have h2 := HSY.out.2.2.1; omega)) (l' := l + 1) (by have h1 := HSX.out.2.2.1; have h2 := HSY.out.2.2.1; omega) (fun _ => rfl))
          have HD5 := Lib.hid hd1; have HN1 := Lib.hid hn1; have HK5 := Lib.hid hk1
          have HXB5 := Lib.hid (hk1.heap HXB4.out HBX.out)
          clear hp1 hd1 hk1 hn1
          go_wp2_with fail
          refine (IH.out w5 sb N1 G1 (sideN L N x l).2 (sideN L N y l).2 _ _ HD5.out (HCQ.out.grow HOK.out HP1.out.le HSX.out.2.1 HSY.out.2.1 HQ2.out) (by have := HP1.out.le.len; have := HSX.out.2.1; omega) (by have := HP1.out.le.len; have := HSY.out.2.1; omega) rfl (fun m => rfl) (by
            rw [HP1.out.le.lev HSX.out.2.1, HP1.out.le.lev HSY.out.2.1]
            have := HSX.out.2.2.2.1; have := HSY.out.2.2.2.1; have := HDD.out; have := HLL.out; omega) (by
            rw [HP1.out.le.lev HSX.out.2.1, HP1.out.le.lev HSY.out.2.1]
            have h1 := HSX.out.2.2.2.1; have h2 := HSY.out.2.2.2.1; have h3 := HBIG.out; have h4 := HST.out; have h6 := HP1.out.cnt
            have h5 : C (min (lev L N (sideN L N x l).2) (lev L N (sideN L N y l).2)) ≤ C (l + 1) := HCQ.out.anti (by omega)
            omega)).mono ?_
          rintro en w6 ⟨k2, N2, G2, rfl, hp2, hd2, hk2, hn2⟩
          have h7 : l + 1 ≤ min (lev L N1 (sideN L N x l).2) (lev L N1 (sideN L N y l).2) := by
            rw [HP1.out.le.lev HSX.out.2.1, HP1.out.le.lev HSY.out.2.1]
            have h1 := HSX.out.2.2.2.1; have h2 := HSY.out.2.2.2.1; omega
          have HP2 := Lib.hid (hp2.weak (HCQ.out.anti h7) h7 (fun _ => rfl))
          clear h7
          have HD6 := Lib.hid hd2; have HN2 := Lib.hid hn2; have HK6 := Lib.hid hk2
          have HBX1 := Lib.hid (show ¬ G1 bx from fun h => (HN1.out _ h).elim HBX.out (fun h => by have := lt_of_heap HXB4.out; omega))
          have HXB6 := Lib.hid (hk2.heap HXB5.out HBX1.out)
          clear hp2 hd2 hk2 hn2
          go_wp2_with fail
          refine (node_any w6 sb L N2 G2 l k1 k2 HD6.out HL24.out HLL.out (by have := HP1.out.lt; have := HP2.out.le.len; omega) HP2.out.lt (by rw [HP2.out.le.lev HP1.out.lt]; have := HP1.out.lev; omega) (by have := HP2.out.lev; omega) (by have h1 := HP1.out.cnt; have h2 := HP2.out.cnt; have h3 := HBIG.out; have h4 := HST.out; omega)).mono ?_
          rintro en w7 ⟨k, N3, G3, rfl, hp3, hd3, hk3, hn3⟩
          have HFIN := Lib.hid (both_step HOK.out HX.out HY.out HL.out HLL.out HST.out HP1.out HP2.out hp3)
          have HBX2 := Lib.hid (show ¬ G2 bx from fun h => (HN2.out _ h).elim HBX1.out (fun h => by have := lt_of_heap HXB5.out; omega))
          have HXB7 := Lib.hid (hk3.heap HXB6.out HBX2.out)
          have HK47 := Lib.hid (show Keeps G w4 w7 from (HK5.out.trans' HK6.out HN1.out).trans' hk3 (news HN1.out HN2.out HK5.out.size))
          have HN47 := Lib.hid (news (news HN1.out HN2.out HK5.out.size) hn3 (HK5.out.trans' HK6.out HN1.out).size)
          obtain ⟨mf', mp', v', fm', pm', hm7, hq7, hbd7⟩ := hd3
          have HM7 := Lib.hid hm7; have HQ7 := Lib.hid hq7
          clear hp3 hk3 hn3 hm7 hq7 hbd7 HP1 HP2 HN1 HN2 HK5 HK6 HD5 HD6 HD4 HXB4 HXB5 HXB6 HBX1 HBX2 IH HSX HSY HDD HBIG HST HQ1 HQ2 HCQ
          go_upto_region 19 with fail
          have hb := HM7.out.blk
          have c3 : w7.cell? ⟨sb, 3, none⟩ = some (.map (some mp')) := by simp [World.cell?, hb]
          have hlt := lt_of_heap hb
          have x0 : w7.cell? ⟨bx, 0, none⟩ = some (.int .i64 (op : Int)) := by simp [World.cell?, HXB7.out]
          have x1 : w7.cell? ⟨bx, 1, none⟩ = some (.int .i64 (x : Int)) := by simp [World.cell?, HXB7.out]
          have x2 : w7.cell? ⟨bx, 2, none⟩ = some (.int .i64 (y : Int)) := by simp [World.cell?, HXB7.out]
          have xl := lt_of_heap HXB7.out
          clear hb
          obtain ⟨w8, hr8, hm8, hk8⟩ := (HM7.out.p.keeps ((Keeps.refl (fun _ => False) w7).drew) (fun h => h)).put (P := Tryz.prog) Tryz.underlying104 key3_arr (op, x, y) k
          replace hr8 : (Instr.mapUpdate 104 (.map (some mp')) (.agg #[.int .i64 (op : Int), .int .i64 (x : Int), .int .i64 (y : Int)]) (.int .i64 (k : Int))).run Tryz.prog w7.drew = .ok () w8 := hr8
          have HM8 := Lib.hid hm8; have HK8 := Lib.hid (((Keeps.refl (fun j => j = mp') w7).drew).trans hk8)
          clear hm8 hk8
          go_region
          all_goals
            go_wp2_with fail
            go_ret
            obtain ⟨hp, hpo⟩ := HFIN.out
            refine ⟨k, N3, fun q => G3 q ∧ q < w8.heap.size, rfl, hp.weak (Nat.le_refl _) (Nat.le_refl _) (fun m => by rw [HS.out]), Dg.of (HM7.out.putp HM8.out HK8.out hpo) HQ7.out, ?_, fun q hq => ?_⟩
            · exact ((HK4.out.mono (fun _ _ h => h.elim)).trans HK47.out).trans' HK8.out (fun i hi => by
                have e : i = mp' := hi
                rw [e]
                exact (HN47.out _ HQ7.out.2.2.1).imp (fun h => h) (fun h => Nat.le_trans HK4.out.size h))
            · exact (HN47.out _ hq.1).imp (fun h => h) (fun h => Nat.le_trans HK4.out.size h)


set_option maxRecDepth 100000 in
set_option maxHeartbeats 4000000 in
theorem both_q (L op : Nat) (hL : L ≤ 24) (hop : op = 0 ∨ op = 1) (C : Nat → Nat) (Q : List Dn → Nat → Nat → Prop) (hC : CostQ L C Q) : ∀ d, BothAt L op C Q d := by
  intro d
  induction d with
  | zero => exact both_body L op hL hop C Q hC 0 (fun d' h => by omega)
  | succ d ih => exact both_body L op hL hop C Q hC (d + 1) (fun d' h => by
    obtain rfl : d' = d := by omega
    exact ih)
theorem both_in (L op : Nat) (hL : L ≤ 24) (hop : op = 0 ∨ op = 1) (d : Nat) (w : World) (sb : Nat) (N : List Dn) (G : Nat → Prop) (a b l : Nat) (S : Nat → Bool) (h : Dg w sb L N G) (ha : a < N.length + 2) (hb : b < N.length + 2) (hl : l = min (lev L N a) (lev L N b)) (hS : ∀ m, S m = opB op (dv N a m) (dv N b m)) (hd : L - l ≤ d) (hbig : low N + lowB L l ≤ 5800000000000) :
    Calls Tryz.prog 65 #[.pointer (some ⟨sb, 0, none⟩), .int .i64 (op : Int), .int .i64 (a : Int), .int .i64 (b : Int)] w (DgR w sb L N G (lowB L l) l S) :=
  both_q L op hL hop _ _ (CostQ.all L) d w sb N G a b l S h trivial ha hb hl hS hd hbig

end Go.Proofs.YtjcgkmodmjckjaaGreat

namespace Go.Proofs.YtjcgkmodmjckjaaGreat
open Go.RowKit

theorem both_any (w : World) (sb L op : Nat) (N : List Dn) (G : Nat → Prop) (a b : Nat) (hop : op = 0 ∨ op = 1) (h : Dg w sb L N G) (hL : L ≤ 24) (ha : a < N.length + 2) (hb : b < N.length + 2) (hbig : low N + lowB L (min (lev L N a) (lev L N b)) ≤ 5800000000000) :
    Calls Tryz.prog 65 #[.pointer (some ⟨sb, 0, none⟩), .int .i64 (op : Int), .int .i64 (a : Int), .int .i64 (b : Int)] w (DgR w sb L N G (lowB L (min (lev L N a) (lev L N b))) (min (lev L N a) (lev L N b)) (fun m => opB op (dv N a m) (dv N b m))) :=
  both_in L op hL hop L w sb N G a b _ _ h ha hb rfl (fun _ => rfl) (by omega) hbig

set_option maxRecDepth 100000 in
theorem and_any (w : World) (sb L : Nat) (N : List Dn) (G : Nat → Prop) (a b : Nat) (h : Dg w sb L N G) (hL : L ≤ 24) (ha : a < N.length + 2) (hb : b < N.length + 2) (hbig : low N + lowB L (min (lev L N a) (lev L N b)) ≤ 5800000000000) :
    Calls Tryz.prog 40 #[.pointer (some ⟨sb, 0, none⟩), .int .i64 (a : Int), .int .i64 (b : Int)] w (DgR w sb L N G (lowB L (min (lev L N a) (lev L N b))) (min (lev L N a) (lev L N b)) (fun m => dv N a m && dv N b m)) := by
  have HC := Lib.hid (both_any w sb L 0 N G a b (.inl rfl) h hL ha hb hbig)
  clear h hL ha hb hbig
  go_enter Tryz.func40, Tryz.ntmps40
  go_wp2_with fail
  refine HC.out.mono ?_; rintro e w2 ⟨k, N', G', rfl, hr⟩
  have HR := Lib.hid hr
  clear hr
  go_wp2_with fail
  go_ret
  exact ⟨k, N', G', rfl, HR.out⟩
set_option maxRecDepth 100000 in
/-- And with a literal: cheaper. -/
theorem andLit_any (w : World) (sb L : Nat) (N : List Dn) (G : Nat → Prop) (a b p : Nat) (h : Dg w sb L N G) (hL : L ≤ 24) (ha : a < N.length + 2) (hb : b < N.length + 2) (hp : LitN N p b) (hbig : low N + litB L p 0 ≤ 5800000000000) :
    Calls Tryz.prog 40 #[.pointer (some ⟨sb, 0, none⟩), .int .i64 (a : Int), .int .i64 (b : Int)] w (DgR w sb L N G (litB L p (min (lev L N a) (lev L N b))) (min (lev L N a) (lev L N b)) (fun m => dv N a m && dv N b m)) := by
  have HC := Lib.hid (both_q L 0 hL (.inl rfl) _ _ (CostQ.lit L p) L w sb N G a b _ _ h (.inr hp) ha hb rfl (fun _ => rfl) (by omega) (by have := litB_anti (L := L) (p := p) (Nat.zero_le (min (lev L N a) (lev L N b))); omega))
  clear h hL ha hb hp hbig
  go_enter Tryz.func40, Tryz.ntmps40
  go_wp2_with fail
  refine HC.out.mono ?_; rintro e w2 ⟨k, N', G', rfl, hr⟩
  have HR := Lib.hid hr
  clear hr
  go_wp2_with fail
  go_ret
  exact ⟨k, N', G', rfl, HR.out⟩
set_option maxRecDepth 100000 in
theorem or_any (w : World) (sb L : Nat) (N : List Dn) (G : Nat → Prop) (a b : Nat) (h : Dg w sb L N G) (hL : L ≤ 24) (ha : a < N.length + 2) (hb : b < N.length + 2) (hbig : low N + lowB L (min (lev L N a) (lev L N b)) ≤ 5800000000000) :
    Calls Tryz.prog 27 #[.pointer (some ⟨sb, 0, none⟩), .int .i64 (a : Int), .int .i64 (b : Int)] w (DgR w sb L N G (lowB L (min (lev L N a) (lev L N b))) (min (lev L N a) (lev L N b)) (fun m => dv N a m || dv N b m)) := by
  have HC := Lib.hid (both_any w sb L 1 N G a b (.inr rfl) h hL ha hb hbig)
  clear h hL ha hb hbig
  go_enter Tryz.func27, Tryz.ntmps27
  go_wp2_with fail
  refine HC.out.mono ?_; rintro e w2 ⟨k, N', G', rfl, hr⟩
  have HR := Lib.hid hr
  clear hr
  go_wp2_with fail
  go_ret
  exact ⟨k, N', G', rfl, HR.out⟩
set_option maxRecDepth 100000 in
theorem literal_any (w : World) (sb L : Nat) (N : List Dn) (G : Nat → Prop) (p : Nat) (pos : Bool) (h : Dg w sb L N G) (hL : L ≤ 24) (hp : p < L) (hbig : low N ≤ 5800000000000) :
    Calls Tryz.prog 63 #[.pointer (some ⟨sb, 0, none⟩), .int .i64 (p : Int), .bool pos] w (DgR w sb L N G (nb p) p (fun m => m.testBit p == pos)) := by
  have l0 : lev L N 0 = L := lev_lt (by omega)
  have l1 : lev L N 1 = L := lev_lt (by omega)
  cases pos with
  | true =>
    have HC := Lib.hid (node_any w sb L N G p 0 1 h hL hp (by omega) (by omega) (by omega) (by omega) hbig)
    clear h hL hp hbig l0 l1
    go_enter Tryz.func63, Tryz.ntmps63
    go_wp2_with fail
    refine HC.out.mono ?_; rintro e w2 ⟨k, N', G', rfl, hp, hr⟩
    have HR := Lib.hid hr; have HP := Lib.hid hp
    clear hr hp
    go_wp2_with fail
    go_ret
    exact ⟨k, N', G', rfl, HP.out.weak (Nat.le_refl _) (Nat.le_refl _) (fun m => by cases hm : m.testBit p <;> simp [dv_zero, dv_one]), HR.out⟩
  | false =>
    have HC := Lib.hid (node_any w sb L N G p 1 0 h hL hp (by omega) (by omega) (by omega) (by omega) hbig)
    clear h hL hp hbig l0 l1
    go_enter Tryz.func63, Tryz.ntmps63
    go_wp2_with fail
    refine HC.out.mono ?_; rintro e w2 ⟨k, N', G', rfl, hp, hr⟩
    have HR := Lib.hid hr; have HP := Lib.hid hp
    clear hr hp
    go_wp2_with fail
    go_ret
    exact ⟨k, N', G', rfl, HP.out.weak (Nat.le_refl _) (Nat.le_refl _) (fun m => by cases hm : m.testBit p <;> simp [dv_zero, dv_one]), HR.out⟩

end Go.Proofs.YtjcgkmodmjckjaaGreat

namespace Go.Proofs.YtjcgkmodmjckjaaGreat
open Go.RowKit

theorem u32_bits {a b : Nat} (ha : a < 4294967296) (hb : b < 4294967296) : bits .and .u32 (a : Int) (b : Int) = ((a &&& b : Nat) : Int) ∧ bits .or .u32 (a : Int) (b : Int) = ((a ||| b : Nat) : Int) :=
  bits_nat .u32 32 (by decide) (fun n h0 h1 => by rw [IntKind.wrap_u32]; omega) a b (by omega) (by omega)

theorem wd_lt32 {l : List Int} {n : Int} (hn : n ≤ 32) (h : isSetB l n = true) : wd l < 4294967296 :=
  wd_lt (n := 32) (fun x hx => by have := (isSet_iff.1 h).1 x hx; omega)

theorem pow_cast {p : Nat} (hp : p < 32) : (2 : Int) ^ p % 4294967296 = ((2 ^ p : Nat) : Int) := by
  have h : (2 : Nat) ^ p < 2 ^ 32 := Nat.pow_lt_pow_right (by decide) hp
  have e : ((2 : Int) ^ p) = ((2 ^ p : Nat) : Int) := by simp
  rw [e]
  have h' : (2 : Nat) ^ p < 4294967296 := h
  generalize (2 : Nat) ^ p = q at h' ⊢
  omega

theorem or_pow {u p : Nat} (hu : u < 4294967296) (hp : p < 32) : bits .or .u32 (u : Int) (2 ^ p % 4294967296) = ((u ||| 2 ^ p : Nat) : Int) := by
  rw [pow_cast hp]
  exact (u32_bits hu (by have := Nat.pow_lt_pow_right (a := 2) (by decide) hp; omega)).2

theorem wd_append (a b : List Int) : wd (a ++ b) = wd b ||| wd a := by
  induction a with
  | nil => simp [wd]
  | cons x r ih => rw [List.cons_append, wd, ih, wd, Nat.or_assoc]

theorem wd_take_lt {l : List Int} (h : ∀ x ∈ l, 0 ≤ x ∧ x < 32) (k : Nat) : wd (l.take k) < 4294967296 :=
  wd_lt (n := 32) (fun x hx => h x (List.mem_of_mem_take hx))

set_option maxHeartbeats 1000000 in
theorem word_any (w : World) (v : Value) (l : List Int) (h : Ints w v l) (hl : ∀ x ∈ l, 0 ≤ x ∧ x < 32) :
    Calls Tryz.prog 26 #[v] w fun e w' => e = .returned (.int .u32 (wd l : Nat)) ∧ w = w' := by
  obtain ⟨ao, ca, hv, ma⟩ := h.form
  have CA := Lib.hid (h.cell hv)
  have HL := Lib.hid hl
  subst hv
  clear h hl
  go_enter Tryz.func26, Tryz.ntmps26
  go_wp2_with fail
  go_loop [3, 8] (fun u i => ∃ k : Nat, k ≤ l.length ∧ i = .int .i64 (k : Int) ∧ u = .int .u32 (wd (l.take k) : Nat)) (fun _ i => l.length - (intOf i).toNat)
  case atStart => exact ⟨0, Nat.zero_le _, rfl, rfl⟩
  case round =>
    obtain ⟨k, hk, rfl, rfl⟩ := hrel
    by_cases hlt : k < l.length
    · obtain ⟨ba, oa, rfl, ha'⟩ := CA.out (by omega)
      obtain ⟨x, hx⟩ : ∃ x, l[k]? = some x := ⟨_, List.getElem?_eq_getElem hlt⟩
      have ha1 := ha' k _ hx
      have hb := HL.out x (List.mem_of_getElem? hx)
      have e2 : wd (l.take (k + 1)) = wd (l.take k) ||| 2 ^ x.toNat := by
        rw [take_getS hx, wd_append, Nat.or_comm]; simp [wd]
      have e3 := or_pow (wd_take_lt HL.out k) (by omega : x.toNat < 32)
      rw [← e2] at e3
      have HE := Lib.hid e3
      have hb0 := hb.1
      clear ha' hx e2 e3
      go_wp2_with fail
      go_round
      case rel => exact ⟨k + 1, by omega, by go_num, by rw [HE.out]⟩
      case measure => simp [intOf]; omega
    · have hf : Hid (wd (l.take k) = wd l) := by unfold Hid; rw [List.take_of_length_le (by omega)]
      go_wp2_with fail
      go_ret
      exact ⟨congrArg (fun u : Nat => Ending.returned (Value.int .u32 (u : Int))) hf.out, rfl⟩

/-! ### Facts -/
theorem and_one {x k : Nat} : bits .and .u32 ((x : Int) / 2 ^ k) 1 = if x.testBit k then 1 else 0 := by
  have e : ((x : Int) / 2 ^ k) = ((x / 2 ^ k : Nat) : Int) := by simp
  rw [e]
  generalize hy : x / 2 ^ k = y
  have ht : x.testBit k = decide (y % 2 = 1) := by rw [Nat.testBit_eq_decide_div_mod_eq, hy]
  rw [ht]
  have e1 : bits .and .u32 (y : Int) 1 = ((y % 2 : Nat) : Int) := by
    have hm : (y % 4294967296) % 2 = y % 2 := by omega
    have hB : ∀ (a b : BitVec 32), a.toNat = y % 4294967296 → b.toNat = 1 → IntKind.u32.wrap ((a &&& b).toNat : Int) = ((y % 2 : Nat) : Int) := by
      intro a b ha hb
      rw [BitVec.toNat_and, ha, hb, Nat.and_one_is_mod, hm, IntKind.wrap_u32]
      omega
    exact hB (BitVec.ofInt 32 (y : Int)) (BitVec.ofInt 32 1) (by rw [BitVec.ofInt_natCast, BitVec.toNat_ofNat]) (by decide)
  rw [e1]
  by_cases h : y % 2 = 1
  · simp [h]
  · have : y % 2 = 0 := by omega
    simp [this]

theorem own_grown {e : TypeId} {size n : Nat} {xs : List Value} {w2 wr Wa w4 : World} {v : Value} (h : wr.ownsRow w2.heap.size e size v n xs) (hk : Keeps (fun _ => False) w2 wr) (hWa : Keeps (fun _ => False) wr Wa) (hgrow : Wa.grownBy w4 v.ownBlock) : Keeps (fun _ => False) w2 w4 :=
  (hk.trans hWa).trans' ((Keeps.refl (fun k => v.ownBlock = some k) Wa).grown hgrow (fun _ hk => .inl hk)) (fun b hb => .inr (World.ownsRow.lt h b hb).1)

/-- The facts of a word below a bound. -/
def factsTo (x k : Nat) : List Int := ((List.range k).filter fun p => x.testBit p).map fun p : Nat => (p : Int)
theorem factsTo_succ (x k : Nat) : factsTo x (k + 1) = if x.testBit k then factsTo x k ++ [(k : Int)] else factsTo x k := by
  unfold factsTo
  rw [List.range_succ, List.filter_append, List.map_append]
  cases h : x.testBit k <;> simp [h]
theorem factsTo_le (x k : Nat) : (factsTo x k).length ≤ k := by
  unfold factsTo
  rw [List.length_map]
  have := List.length_filter_le (fun p => x.testBit p) (List.range k)
  simpa using this

set_option maxRecDepth 100000 in
theorem facts_any (w : World) (x : Nat) :
    Calls Tryz.prog 61 #[.int .u32 (x : Int)] w fun e w' => ∃ v, e = .returned v ∧ w'.ownsRow w.heap.size 3 1 v (facts x).length ((facts x).map (Value.int .i64)) ∧ Keeps (fun _ => False) w w' ∧ w.drawn ≤ w'.drawn := by
  obtain ⟨i0, hi0, hz0, hz1, hz2⟩ := info_parts Tryz.info3
  go_enter Tryz.func61, Tryz.ntmps61
  go_wp2_with fail
  go_loopw [3, 5] (fun v i wr => ∃ k : Nat, k ≤ 32 ∧ i = .int .i64 (k : Int) ∧ wr.ownsRow w.heap.size 3 1 v (factsTo x k).length ((factsTo x k).map (Value.int .i64)) ∧ Keeps (fun _ => False) w wr ∧ w.drawn ≤ wr.drawn) (fun _ i _ => 32 - (intOf i).toNat)
  case atStart => exact ⟨0, by omega, rfl, World.ownsRow_nil _ _ _ _, Keeps.refl _ _, Nat.le_refl _⟩
  case round =>
    obtain ⟨k, hk, rfl, hown, hkw, hd⟩ := hrel
    have HO := Lib.hid hown; clear hown
    have KW := Lib.hid hkw; clear hkw
    by_cases hlt : k < 32
    · have hle := factsTo_le x k
      have hsz := KW.out.size
      by_cases ht : x.testBit k = true
      · have hb : (bits .and .u32 ((x : Int) / 2 ^ k) 1 == 1) = true := by rw [and_one, if_pos ht]; rfl
        have HS : Hid (factsTo x (k + 1) = factsTo x k ++ [(k : Int)]) := by unfold Hid; rw [factsTo_succ, if_pos ht]
        clear ht
        obtain ⟨av, cv, hv⟩ := ownsRow_form1 HO.out
        subst hv
        go_wp2_with (at_builtin; refine wpList_append_d rfl _ _ _ rfl w.heap.size 3 i0 _ 1 8 Tryz.underlying22 hi0 hz0 hz1 hz2 rfl (by omega) _ (factsTo x k).length ((factsTo x k).map (Value.int .i64)) (by rfl) (World.ownsRow.alloc HO.out (.cells #[.int .i64 (k : Int)] 3)) ⟨wr.heap.size, 0, none⟩ 1 1 [.int .i64 (k : Int)] (by rfl) (by rfl) ?hnews ?hone (by omega) (by unfold maxLen; omega) (by omega) (by simp; omega) (wr.heap.size + 1) (by simp) ?_)
        case hnews => exact World.news_of_block (cs := #[.int .i64 (k : Int)]) (t := 3) (fr := (0, 0)) (heap_alloc_new _ _)
        case hone => simp [Value.oneCell']
        intro g cap2 w4 hown hgrow hat hlt4 hd4
        have HN := Lib.hid (show w4.ownsRow w.heap.size 3 1 (.slice (some ⟨g, 0, none⟩) ((factsTo x k).length + 1) cap2) (factsTo x (k + 1)).length ((factsTo x (k + 1)).map (Value.int .i64)) by
          rw [HS.out, List.map_append, List.length_append]; exact hown)
        have HKN := Lib.hid (own_grown HO.out KW.out ((Keeps.refl _ wr).alloc (.cells #[.int .i64 (k : Int)] 3)) hgrow)
        have hd5 : w.drawn ≤ w4.drawn := Nat.le_trans hd hd4
        clear hown hgrow hat hd4
        go_wp2_with fail
        go_roundw
        case rel => exact ⟨k + 1, by omega, by go_num, HN.out, HKN.out, hd5⟩
        case measure => simp [intOf]; omega
      · have hb : (bits .and .u32 ((x : Int) / 2 ^ k) 1 == 1) = false := by rw [and_one, if_neg ht]; rfl
        have HS : Hid (factsTo x (k + 1) = factsTo x k) := by unfold Hid; rw [factsTo_succ, if_neg ht]
        clear ht
        go_wp2_with fail
        go_roundw
        case rel => exact ⟨k + 1, by omega, by go_num, by rw [HS.out]; exact HO.out, KW.out, hd⟩
        case measure => simp [intOf]; omega
    · obtain rfl : k = 32 := by omega
      go_wp2_with fail
      go_ret
      exact ⟨_, rfl, HO.out, KW.out, hd⟩

end Go.Proofs.YtjcgkmodmjckjaaGreat

namespace Go.Proofs.YtjcgkmodmjckjaaGreat
open Go.RowKit

theorem opsFault_get {n i : Int} {l : List Opr} {k : Nat} {o : Opr} (h : l[k]? = some o) : opsFault n i (l.drop k) = if opCode o n = 0 then opsFault n (i + 1) (l.drop (k + 1)) else (opCode o n, i) := by
  obtain ⟨h1, h2⟩ := List.getElem?_eq_some_iff.1 h
  rw [List.drop_eq_getElem_cons h1, h2, opsFault]

/-- What a function that keeps its fault in a block of its own knows of that block. -/
structure Flt (w w1 : World) (F : Nat) (T : TypeId) : Prop where
  blk : w1.heap[F]? = some (.cells #[.int .i64 0, .int .i64 0] T (0, 0))
  base : w.heap.size ≤ F
  keep : Keeps (fun _ => False) w w1
theorem Flt.keeps0 {w w1 w2 : World} {F : Nat} {T : TypeId} (h : Flt w w1 F T) (hk : Keeps (fun _ => False) w1 w2) : Flt w w2 F T := ⟨hk.heap h.blk (fun h => h), h.base, h.keep.trans hk⟩
theorem Flt.cells {w w1 : World} {F : Nat} {T : TypeId} (h : Flt w w1 F T) : w1.cell? ⟨F, 0, none⟩ = some (.int .i64 0) ∧ w1.cell? ⟨F, 1, none⟩ = some (.int .i64 0) ∧ w1.frozen? ⟨F, 0, none⟩ = false ∧ w1.frozen? ⟨F, 1, none⟩ = false ∧ F < w1.heap.size :=
  ⟨by rw [cell_of_blk h.blk]; rfl, by rw [cell_of_blk h.blk]; rfl, frozen_of_blk h.blk, frozen_of_blk h.blk, lt_of_heap h.blk⟩
theorem Flt.set {w w1 : World} {F : Nat} {T : TypeId} (h : Flt w w1 F T) (c n : Value) : ((w1.setCell ⟨F, 0, none⟩ c).setCell ⟨F, 1, none⟩ n).heap[F]? = some (.cells #[c, n] T (0, 0)) ∧ Keeps (fun _ => False) w ((w1.setCell ⟨F, 0, none⟩ c).setCell ⟨F, 1, none⟩ n) :=
  ⟨pair_set h.blk c n, h.keep.trans' (keeps_pair F c n) (fun i hi => .inr (by have := h.base; omega))⟩

set_option maxHeartbeats 1000000 in
theorem validate_any (w : World) (vi vg vo : Value) (t : Tsk) (h : TaskAt w vi vg vo t) :
    Calls Tryz.prog 55 #[.agg #[.int .i64 t.n, vi, vg, vo]] w fun e w' => e = .returned (.agg #[.int .i64 (taskFault t).1, .int .i64 (taskFault t).2]) ∧ Keeps (fun _ => False) w w' := by
  obtain ⟨ai, ci, h1, _⟩ := h.init.form
  obtain ⟨ag, cg, h2, _⟩ := h.goal.form
  obtain ⟨ao, co, h3, hmo⟩ := h.ops.form
  subst h1 h2 h3
  have K1 := (Keeps.refl (fun _ => False) w).alloc (.cells #[.int .i64 t.n, .slice ai t.init.length ci, .slice ag t.goal.length cg, .slice ao t.ops.length co] 25)
  have HT := h.keeps0 (K1.alloc (.cells #[.int .i64 0, .int .i64 0] 29))
  have HB := (Four.new w (.int .i64 t.n) (.slice ai t.init.length ci) (.slice ag t.goal.length cg) (.slice ao t.ops.length co) 25).keeps0 ((Keeps.refl _ _).alloc (.cells #[.int .i64 0, .int .i64 0] 29))
  have HF : Flt w ((w.alloc (.cells #[.int .i64 t.n, .slice ai t.init.length ci, .slice ag t.goal.length cg, .slice ao t.ops.length co] 25)).alloc (.cells #[.int .i64 0, .int .i64 0] 29)) (w.heap.size + 1) 29 :=
    ⟨by have := heap_alloc_new (w.alloc (.cells #[.int .i64 t.n, .slice ai t.init.length ci, .slice ag t.goal.length cg, .slice ao t.ops.length co] 25)) (.cells #[.int .i64 0, .int .i64 0] 29); rwa [World.size_alloc] at this, by omega, K1.alloc _⟩
  replace HT := Lib.hid HT; replace HB := Lib.hid HB; replace HF := Lib.hid HF
  clear h K1
  go_enter Tryz.func55, Tryz.ntmps55
  go_upto_region 1 with fail
  generalize ((w.alloc (.cells #[.int .i64 t.n, .slice ai t.init.length ci, .slice ag t.goal.length cg, .slice ao t.ops.length co] 25)).alloc (.cells #[.int .i64 0, .int .i64 0] 29)) = w1 at HT HB HF ⊢
  obtain ⟨d0, d1, d2, d3⟩ := HB.out
  obtain ⟨e0, e1, z0, z1, hF⟩ := HF.out.cells
  by_cases hn : t.n < 0 ∨ 24 < t.n
  · have HP : Hid (taskFault t = (3, -1)) := by unfold Hid taskFault; rw [if_pos (by omega)]
    rcases hn with hn | hn
    all_goals
      go_wp2_with fail
      refine bodyPost_ret (results_cell_row rfl _ _ (w.heap.size + 1) 29 _ (0, 0) _ rfl (HF.out.set (.int .i64 3) (.int .i64 (-1))).1 Tryz.underlying29 rfl (by kernel_rfl)) rfl ?_
      exact ⟨by rw [HP.out], (HF.out.set _ _).2⟩
  · have hn0 : 0 ≤ t.n := by omega
    have hn1 : t.n ≤ 24 := by omega
    have hn2 : ¬ t.n < 0 := by omega
    have hn3 : ¬ 24 < t.n := by omega
    clear hn
    have P1 : taskFault t = if isSetB t.init t.n = false then (5, -2) else
      if isSetB t.goal t.n = false then (5, -3) else
      if 40 < t.ops.length then (2, -1) else opsFault t.n 0 t.ops := by unfold taskFault; rw [if_neg (by omega)]
    cases b1 : isSetB t.init t.n with
    | false =>
      have HP : Hid (taskFault t = (5, -2)) := by unfold Hid; rw [P1, if_pos b1]
      have B1 := Lib.hid b1
      clear b1 P1
      go_wp2_with fail
      refine (sIsSet_val HT.out.init B1.out).mono ?_; rintro e w2 ⟨rfl, rfl⟩
      go_wp2_with fail
      refine bodyPost_ret (results_cell_row rfl _ _ (w.heap.size + 1) 29 _ (0, 0) _ rfl (HF.out.set (.int .i64 5) (.int .i64 (-2))).1 Tryz.underlying29 rfl (by kernel_rfl)) rfl ?_
      exact ⟨by rw [HP.out], (HF.out.set _ _).2⟩
    | true =>
      rw [if_neg (by simp [b1])] at P1
      cases b2 : isSetB t.goal t.n with
      | false =>
        have HP : Hid (taskFault t = (5, -3)) := by unfold Hid; rw [P1, if_pos b2]
        have B1 := Lib.hid b1; have B2 := Lib.hid b2
        clear b1 b2 P1
        go_wp2_with fail
        refine (sIsSet_val HT.out.init B1.out).mono ?_; rintro e w2 ⟨rfl, rfl⟩
        go_wp2_with fail
        refine (sIsSet_val HT.out.goal B2.out).mono ?_; rintro e w2 ⟨rfl, rfl⟩
        go_wp2_with fail
        refine bodyPost_ret (results_cell_row rfl _ _ (w.heap.size + 1) 29 _ (0, 0) _ rfl (HF.out.set (.int .i64 5) (.int .i64 (-3))).1 Tryz.underlying29 rfl (by kernel_rfl)) rfl ?_
        exact ⟨by rw [HP.out], (HF.out.set _ _).2⟩
      | true =>
        rw [if_neg (by simp [b2])] at P1
        have B1 := Lib.hid b1; have B2 := Lib.hid b2
        clear b1 b2
        by_cases h40 : 40 < t.ops.length
        · have HP : Hid (taskFault t = (2, -1)) := by unfold Hid; rw [P1, if_pos h40]
          clear P1
          go_wp2_with fail
          refine (sIsSet_val HT.out.init B1.out).mono ?_; rintro e w2 ⟨rfl, rfl⟩
          go_wp2_with fail
          refine (sIsSet_val HT.out.goal B2.out).mono ?_; rintro e w2 ⟨rfl, rfl⟩
          go_wp2_with fail
          refine bodyPost_ret (results_cell_row rfl _ _ (w.heap.size + 1) 29 _ (0, 0) _ rfl (HF.out.set (.int .i64 2) (.int .i64 (-1))).1 Tryz.underlying29 rfl (by kernel_rfl)) rfl ?_
          exact ⟨by rw [HP.out], (HF.out.set _ _).2⟩
        · rw [if_neg h40] at P1
          have HQ := Lib.hid P1
          have HC := Lib.hid (HT.out.ops.cell rfl)
          clear P1
          go_wp2_with fail
          refine (sIsSet_val HT.out.init B1.out).mono ?_; rintro e w2 ⟨rfl, rfl⟩
          go_wp2_with fail
          refine (sIsSet_val HT.out.goal B2.out).mono ?_; rintro e w2 ⟨rfl, rfl⟩
          go_wp2_with fail
          go_loopw [41] (fun i wr => ∃ k : Nat, k ≤ t.ops.length ∧ i = .int .i64 (k : Int) ∧ opsFault t.n 0 t.ops = opsFault t.n (k : Int) (t.ops.drop k) ∧ Keeps (fun _ => False) w1 wr) (fun i _ => t.ops.length - (intOf i).toNat)
          case atStart => exact ⟨0, Nat.zero_le _, rfl, rfl, Keeps.refl _ _⟩
          case round =>
            obtain ⟨k, hk, rfl, ht, hkw⟩ := hrel
            have HTL := Lib.hid ht; clear ht
            have KW := Lib.hid hkw; clear hkw
            obtain ⟨d0, d1, d2, d3⟩ := HB.out.keeps0 KW.out
            have hbx := (HB.out.keeps0 KW.out).lt
            obtain ⟨e0, e1, z0, z1, hF⟩ := (HF.out.keeps0 KW.out).cells
            by_cases hlt : k < t.ops.length
            · obtain ⟨bo, oo, rfl, hcell⟩ := HC.out (by omega)
              obtain ⟨o, ho⟩ : ∃ o, t.ops[k]? = some o := ⟨_, List.getElem?_eq_getElem hlt⟩
              obtain ⟨va, vb, vc, p0, p1, p2, p3, i1, i2, i3⟩ := hcell k o ho
              have q0 := KW.out.cell p0 (fun h => h)
              have q1 := KW.out.cell p1 (fun h => h)
              have q2 := KW.out.cell p2 (fun h => h)
              have q3 := KW.out.cell p3 (fun h => h)
              have I1 := Lib.hid (i1.keeps0 KW.out); have I2 := Lib.hid (i2.keeps0 KW.out); have I3 := Lib.hid (i3.keeps0 KW.out)
              have HG := Lib.hid (opsFault_get (n := t.n) (i := (k : Int)) ho)
              obtain ⟨a1, k1, f1, _⟩ := i1.form
              obtain ⟨a2, k2, f2, _⟩ := i2.form
              obtain ⟨a3, k3, f3, _⟩ := i3.form
              subst f1 f2 f3
              clear hcell ho p0 p1 p2 p3 i1 i2 i3
              have KA := Lib.hid ((Keeps.refl (fun _ => False) wr).alloc (.cells #[.slice a1 o.pre.length k1, .slice a2 o.add.length k2, .slice a3 o.del.length k3, .int .i64 o.cost] 72))
              have HOP := Lib.hid (fun (w' : World) => operator_any w' (.slice a1 o.pre.length k1) (.slice a2 o.add.length k2) (.slice a3 o.del.length k3) o t.n)
              go_wp2_with fail
              refine (HOP.out _ (I1.out.keeps0 KA.out) (I2.out.keeps0 KA.out) (I3.out.keeps0 KA.out) (by omega)).mono ?_; rintro e w3 ⟨rfl, hk3⟩
              have K3 := Lib.hid (KA.out.trans hk3)
              clear hk3
              by_cases hz : opCode o t.n = 0
              · have HN : Hid (opsFault t.n 0 t.ops = opsFault t.n ((k + 1 : Nat) : Int) (t.ops.drop (k + 1))) := by
                  unfold Hid; rw [HTL.out, HG.out, if_pos hz]; rfl
                have hz' : (opCode o t.n != 0) = false := by simpa using hz
                clear hz
                generalize opCode o t.n = c at hz' ⊢
                go_wp2_with fail
                go_roundw
                case rel => exact ⟨k + 1, by omega, by go_num, HN.out, KW.out.trans K3.out⟩
                case measure => simp [intOf]; omega
              · have HP : Hid (taskFault t = (opCode o t.n, (k : Int))) := by unfold Hid; rw [HQ.out, HTL.out, HG.out, if_neg hz]
                have hz' : (opCode o t.n != 0) = true := by simpa using hz
                clear hz
                have HF4 := Lib.hid ((HF.out.keeps0 KW.out).keeps0 K3.out)
                obtain ⟨e0, e1, z0, z1, hF⟩ := HF4.out.cells
                generalize opCode o t.n = c at hz' HP ⊢
                go_wp2_with fail
                refine bodyPost_ret (results_cell_row rfl _ _ (w.heap.size + 1) 29 _ (0, 0) _ rfl (HF4.out.set (.int .i64 c) (.int .i64 (k : Int))).1 Tryz.underlying29 rfl (by kernel_rfl)) rfl ?_
                exact ⟨by rw [HP.out], (HF4.out.set _ _).2⟩
            · have HP : Hid (taskFault t = (0, 0)) := by unfold Hid; rw [HQ.out, HTL.out, List.drop_of_length_le (by omega)]; rfl
              have HF4 := Lib.hid (HF.out.keeps0 KW.out)
              go_wp2_with fail
              refine bodyPost_ret (results_cell_row rfl _ _ (w.heap.size + 1) 29 _ (0, 0) _ rfl (HF4.out.set (.int .i64 0) (.int .i64 0)).1 Tryz.underlying29 rfl (by kernel_rfl)) rfl ?_
              exact ⟨by rw [HP.out], (HF4.out.set _ _).2⟩

end Go.Proofs.YtjcgkmodmjckjaaGreat

namespace Go.Proofs.YtjcgkmodmjckjaaGreat
open Go.RowKit

theorem Tryz.info_mask : (Tryz.prog.info? 160).map (fun i => (i.zero, i.size, i.bytes)) = some (some (.agg #[.int .u32 0, .int .u32 0, .int .u32 0, .int .i64 0]), 4, 24) := by kernel_rfl

def wopCells (ops : List Wop) : List Value := ops.flatMap fun o => [.int .u32 (o.pre : Int), .int .u32 (o.add : Int), .int .u32 (o.del : Int), .int .i64 o.cost]
def wordsOf (ops : List Opr) : List Wop := ops.map Opr.word

theorem wopCells_append (a b : List Wop) : wopCells (a ++ b) = wopCells a ++ wopCells b := by unfold wopCells; exact List.flatMap_append

theorem word_still {w : World} {v : Value} {l : List Int} (h : Ints w v l) (hl : ∀ x ∈ l, 0 ≤ x ∧ x < 32) :
    Calls Tryz.prog 26 #[v] w fun e w' => e = .returned (.int .u32 (wd l : Nat)) ∧ w' = w :=
  (word_any w v l h hl).mono fun _ _ ⟨he, hw⟩ => ⟨he, hw.symm⟩

theorem set_bound {l : List Int} {n : Int} (h : isSetB l n = true) (hn : n ≤ 24) : ∀ x ∈ l, 0 ≤ x ∧ x < 32 := fun x hx => by have := (isSet_iff.1 h).1 x hx; omega

/-- A block that holds the words of a task. -/
structure WordsAt (w : World) (base b : Nat) (s g : Nat) (v : Value) (ops : List Wop) : Prop where
  blk : w.heap[b]? = some (.cells #[.int .u32 (s : Int), .int .u32 (g : Int), v] 158 (0, 0))
  own : w.ownsRow base 160 4 v ops.length (wopCells ops)
  low : base ≤ b
  ne : v.ownBlock ≠ some b

set_option maxHeartbeats 1000000 in
theorem grown_cell {w4 w5 : World} {o : Obj} {row : Option Nat} (hg : ((w4.alloc o).drew).grownBy w5 row) {b j : Nat} {x : Value} (h : w4.cell? ⟨b, j, none⟩ = some x) (hne : row ≠ some b) : w5.cell? ⟨b, j, none⟩ = some x :=
  hg.cell (a := ⟨b, j, none⟩) (((Keeps.refl (fun _ => False) w4).alloc o).drew.cell h (fun h => h)) (fun e => hne e.symm)
theorem grown_heap {w4 w5 : World} {o o' : Obj} {row : Option Nat} (hg : ((w4.alloc o).drew).grownBy w5 row) {b : Nat} (h : w4.heap[b]? = some o') (hne : row ≠ some b) : w5.heap[b]? = some o' := by
  have h1 := (((Keeps.refl (fun _ => False) w4).alloc o).drew).heap h (fun h => h)
  exact (hg.block b (lt_of_heap h1) (fun e => hne e.symm)).trans h1

theorem ownsRow_mono4 {w : World} {base base' : Nat} {e : TypeId} {size : Nat} {v : Value} {n : Nat} {xs : List Value} (h : w.ownsRow base e size v n xs) (hb : base' ≤ base) : w.ownsRow base' e size v n xs := ownsRow_mono h hb

theorem WordsAt.keeps0 {w w' : World} {base b s g : Nat} {v : Value} {ops : List Wop} (h : WordsAt w base b s g v ops) (hk : Keeps (fun _ => False) w w') : WordsAt w' base b s g v ops :=
  ⟨hk.heap h.blk (fun h => h), hk.ownsRow h.own (fun _ _ h => h), h.low, h.ne⟩

theorem WordsAt.push {w4 w5 : World} {base bb s g n cap gg : Nat} {v : Value} {ops : List Wop} {o : Obj} {p : Wop} (h : WordsAt w4 base bb s g v ops) (hg : ((w4.alloc o).drew).grownBy w5 v.ownBlock) (hn : n = ops.length + 1)
    (hown : w5.ownsRow base 160 4 (.slice (some ⟨gg, 0, none⟩) n cap) n (wopCells ops ++ [.int .u32 (p.pre : Int), .int .u32 (p.add : Int), .int .u32 (p.del : Int), .int .i64 p.cost])) (hat : v.ownBlock = some gg ∨ gg = w4.heap.size + 1) :
    WordsAt (w5.setCell ⟨bb, 2, none⟩ (.slice (some ⟨gg, 0, none⟩) n cap)) base bb s g (.slice (some ⟨gg, 0, none⟩) n cap) (ops ++ [p]) := by
  have hb := grown_heap (w4 := w4) hg h.blk h.ne
  have hne : gg ≠ bb := by
    rcases hat with e | e
    · intro e'; exact h.ne (by rw [e, e'])
    · have := lt_of_heap h.blk; omega
  refine ⟨by rw [blk_set_same hb]; rfl, ?_, h.low, by simpa [Value.ownBlock] using hne⟩
  have hk : Keeps (fun b => b = bb) w5 (w5.setCell ⟨bb, 2, none⟩ (.slice (some ⟨gg, 0, none⟩) n cap)) := (Keeps.refl (fun b => b = bb) w5).setCell (p := ⟨bb, 2, none⟩) (.inl rfl) _
  have h2 : w5.ownsRow base 160 4 (.slice (some ⟨gg, 0, none⟩) n cap) (ops ++ [p]).length (wopCells (ops ++ [p])) := by
    rw [wopCells_append, List.length_append, show ops.length + [p].length = n by simp [hn]]; exact hown
  exact hk.ownsRow h2 (fun k hk e => by simp [Value.ownBlock] at hk; omega)

theorem WordsAt.pushKeeps {w2 w4 w5 : World} {bb s g : Nat} {v : Value} {ops : List Wop} {o : Obj} (h : WordsAt w4 bb bb s g v ops) (hg : ((w4.alloc o).drew).grownBy w5 v.ownBlock) (hb : w2.heap.size = bb) (hk : Keeps (fun _ => False) w2 w4) (u : Value) : Keeps (fun _ => False) w2 (w5.setCell ⟨bb, 2, none⟩ u) := by
  have h1 : Keeps (fun b => v.ownBlock = some b) (w4.alloc o).drew w5 := (Keeps.refl _ _).grown hg (fun k hk => .inl hk)
  have h2 : Keeps (fun _ => False) w2 w5 := (hk.trans ((Keeps.refl _ w4).alloc o).drew).trans' h1 (fun b e => .inr (by have := (World.ownsRow.lt h.own b e).1; omega))
  exact h2.setCell (p := ⟨bb, 2, none⟩) (.inr (by simp only; omega)) u

set_option maxHeartbeats 4000000 in
set_option maxRecDepth 100000 in
theorem of_any (w : World) (vi vg vo : Value) (t : Tsk) (h : TaskAt w vi vg vo t) (ok : t.Ok) :
    Calls Tryz.prog 56 #[.agg #[.int .i64 t.n, vi, vg, vo]] w fun e w' => ∃ b v, e = .returned (.pointer (some ⟨b, 0, none⟩)) ∧ WordsAt w' w.heap.size b (wd t.init) (wd t.goal) v (wordsOf t.ops) ∧ Keeps (fun _ => False) w w' := by
  obtain ⟨ai, ci, h1, _⟩ := h.init.form
  obtain ⟨ag, cg, h2, _⟩ := h.goal.form
  obtain ⟨ao, co, h3, hmo⟩ := h.ops.form
  subst h1 h2 h3
  have K1 := (Keeps.refl (fun _ => False) w).alloc (.cells #[.int .i64 t.n, .slice ai t.init.length ci, .slice ag t.goal.length cg, .slice ao t.ops.length co] 25)
  have HT := h.keeps0 K1
  have HB := Four.new w (.int .i64 t.n) (.slice ai t.init.length ci) (.slice ag t.goal.length cg) (.slice ao t.ops.length co) 25
  replace HT := Lib.hid HT; replace HB := Lib.hid HB; have OK := Lib.hid ok; have K1 := Lib.hid K1
  clear h ok
  go_enter Tryz.func56, Tryz.ntmps56
  go_upto_region 1 with fail
  generalize (w.alloc (.cells #[.int .i64 t.n, .slice ai t.init.length ci, .slice ag t.goal.length cg, .slice ao t.ops.length co] 25)) = w1 at HT HB K1 ⊢
  obtain ⟨d0, d1, d2, d3⟩ := HB.out
  have hbx := HB.out.lt
  have BI := Lib.hid (set_bound OK.out.init OK.out.n1); have BG := Lib.hid (set_bound OK.out.goal OK.out.n1)
  go_still_tail 7, (by kernel_rfl)
  still_call (word_still (HT.out.init.keeps0 ((Keeps.refl _ _).drew)) BI.out)
  repeat still_step
  still_call (word_still (HT.out.goal.keeps0 ((Keeps.refl _ _).drew)) BG.out)
  repeat still_step
  refine wpStill_nil ?_
  change wpList _ _ _ _ _ w1.drew
  have K2 := Lib.hid (K1.out.drew)
  have HT2 := Lib.hid (HT.out.keeps0 ((Keeps.refl _ _).drew))
  have HB2 := Lib.hid (HB.out.keeps0 ((Keeps.refl _ _).drew))
  generalize w1.drew = w2 at K2 HT2 HB2 ⊢
  clear d0 d1 d2 d3 hbx
  obtain ⟨d0, d1, d2, d3⟩ := HB2.out
  have hbx := HB2.out.lt
  obtain ⟨i0, hi0, hz0, hz1, hz2⟩ := info_parts Tryz.info_mask
  have HC := Lib.hid (HT2.out.ops.cell rfl)
  go_wp2_with fail
  obtain ⟨bb, hbb⟩ : ∃ bb, w2.heap.size = bb := ⟨_, rfl⟩
  have HS : Hid (WordsAt (w2.alloc (.cells #[.int .u32 ((wd t.init : Nat) : Int), .int .u32 ((wd t.goal : Nat) : Int), .slice none 0 0] 158)) bb bb (wd t.init) (wd t.goal) (.slice none 0 0) (wordsOf (t.ops.take 0)) ∧ Keeps (fun _ => False) w2 (w2.alloc (.cells #[.int .u32 ((wd t.init : Nat) : Int), .int .u32 ((wd t.goal : Nat) : Int), .slice none 0 0] 158))) :=
    ⟨⟨by rw [← hbb]; exact heap_alloc_new _ _, World.ownsRow_nil _ _ _ _, Nat.le_refl _, by simp [Value.ownBlock]⟩, (Keeps.refl _ _).alloc _⟩
  rw [hbb]
  have HBB := Lib.hid hbb
  clear hbb
  generalize (w2.alloc (.cells #[.int .u32 ((wd t.init : Nat) : Int), .int .u32 ((wd t.goal : Nat) : Int), .slice none 0 0] 158)) = w3 at HS ⊢
  go_loopw [17] (fun i wr => ∃ k : Nat, k ≤ t.ops.length ∧ i = .int .i64 (k : Int) ∧ (∃ v, WordsAt wr bb bb (wd t.init) (wd t.goal) v (wordsOf (t.ops.take k))) ∧ Keeps (fun _ => False) w2 wr) (fun i _ => t.ops.length - (intOf i).toNat)
  case atStart => exact ⟨0, Nat.zero_le _, rfl, ⟨_, HS.out.1⟩, HS.out.2⟩
  case round =>
    obtain ⟨k, hk, rfl, ⟨v, hw⟩, hkw⟩ := hrel
    have HW := Lib.hid hw; have KW := Lib.hid hkw
    clear hw hkw
    by_cases hlt : k < t.ops.length
    · obtain ⟨bo, oo, rfl, hcell⟩ := HC.out (by omega)
      obtain ⟨o, ho⟩ : ∃ o, t.ops[k]? = some o := ⟨_, List.getElem?_eq_getElem hlt⟩
      obtain ⟨va, vb, vc, p0, p1, p2, p3, i1, i2, i3⟩ := hcell k o ho
      have hom := OK.out.ops o (List.mem_of_getElem? ho)
      have U1 := Lib.hid (set_bound hom.pre OK.out.n1); have U2 := Lib.hid (set_bound hom.add OK.out.n1); have U3 := Lib.hid (set_bound hom.del OK.out.n1)
      have HTK := Lib.hid (take_getS ho)
      have q0 := KW.out.cell p0 (fun h => h)
      have q1 := KW.out.cell p1 (fun h => h)
      have q2 := KW.out.cell p2 (fun h => h)
      have q3 := KW.out.cell p3 (fun h => h)
      obtain ⟨a1, k1, f1, _⟩ := i1.form
      obtain ⟨a2, k2, f2, _⟩ := i2.form
      obtain ⟨a3, k3, f3, _⟩ := i3.form
      subst f1 f2 f3
      have K4 := (Keeps.refl (fun _ => False) wr).alloc (.cells #[.slice a1 o.pre.length k1, .slice a2 o.add.length k2, .slice a3 o.del.length k3, .int .i64 o.cost] 72)
      have HO4 := Four.new wr (.slice a1 o.pre.length k1) (.slice a2 o.add.length k2) (.slice a3 o.del.length k3) (.int .i64 o.cost) 72
      have I1 := Lib.hid (i1.keeps0 (KW.out.trans K4)); have I2 := Lib.hid (i2.keeps0 (KW.out.trans K4)); have I3 := Lib.hid (i3.keeps0 (KW.out.trans K4))
      clear hcell ho hom p0 p1 p2 p3 i1 i2 i3
      go_upto_region 5 with fail
      have KW4 := Lib.hid (KW.out.trans K4)
      have HO4' := Lib.hid HO4
      have HW4 := Lib.hid (HW.out.keeps0 K4)
      clear K4 HO4
      obtain ⟨b4, hb4⟩ : ∃ b4, wr.heap.size = b4 := ⟨_, rfl⟩
      rw [hb4] at HO4' ⊢
      have hv4 : v.ownBlock ≠ some b4 := fun e => by have := (World.ownsRow.lt HW.out.own b4 e).2; omega
      have hbb4 : b4 ≠ bb := by have := lt_of_heap HW.out.blk; omega
      have HNE := Lib.hid hbb4
      clear q0 q1 q2 q3 hb4 hbb4
      generalize (wr.alloc (.cells #[.slice a1 o.pre.length k1, .slice a2 o.add.length k2, .slice a3 o.del.length k3, .int .i64 o.cost] 72)) = w4 at KW4 HO4' HW4 I1 I2 I3 ⊢
      obtain ⟨c0, c1, c2, c3⟩ := HO4'.out
      have g2 : w4.cell? ⟨bb, 2, none⟩ = some v := by rw [cell_of_blk HW4.out.blk]; rfl
      have gz : w4.frozen? ⟨bb, 2, none⟩ = false := frozen_of_blk HW4.out.blk
      have gl := lt_of_heap HW4.out.blk
      have hg4 := HO4'.out.lt
      have hbb4 := HNE.out
      have J1 := Lib.hid (word_still (I1.out.keeps0 ((Keeps.refl _ _).drew)) U1.out)
      have J2 := Lib.hid (word_still (I2.out.keeps0 ((Keeps.refl _ _).drew)) U2.out)
      have J3 := Lib.hid (word_still (I3.out.keeps0 ((Keeps.refl _ _).drew)) U3.out)
      have hnb : (wordsOf (t.ops.take k)).length ≤ 40 := by unfold wordsOf; simp; have := OK.out.few; omega
      have hbase : bb ≤ w4.heap.size := by omega
      have e1 := World.new_ne w4 ⟨bb, 2, none⟩ g2
      refine wp_region_L (by kernel_rfl) (fun w' => w'.cell? ⟨bb, 2, none⟩ = some v ∧ w'.cell? ⟨b4, 0, none⟩ = some (.slice a1 o.pre.length k1) ∧ w'.cell? ⟨b4, 1, none⟩ = some (.slice a2 o.add.length k2) ∧ w'.cell? ⟨b4, 2, none⟩ = some (.slice a3 o.del.length k3) ∧ w'.cell? ⟨b4, 3, none⟩ = some (.int .i64 o.cost)) [0, 1, 2, 3, 4, 5, 6, 8, 9, 11, 12, 14, 15, 16] ?_
      have hS : w4.drew.cell? ⟨bb, 2, none⟩ = some v ∧ w4.drew.cell? ⟨b4, 0, none⟩ = some (.slice a1 o.pre.length k1) ∧ w4.drew.cell? ⟨b4, 1, none⟩ = some (.slice a2 o.add.length k2) ∧ w4.drew.cell? ⟨b4, 2, none⟩ = some (.slice a3 o.del.length k3) ∧ w4.drew.cell? ⟨b4, 3, none⟩ = some (.int .i64 o.cost) := ⟨g2, c0, c1, c2, c3⟩
      refine wpAnyL_take (i := 0) (v := ?_) rfl (by decide) (by kernel_rfl) (by kernel_rfl) (by kernel_rfl) (fun _ _ _ h => h) rfl ?_ hS ?_
      rotate_left
      · (intro w' hSw; obtain ⟨t0, t1, t2, t3, t4⟩ := hSw; go_simp; try with_reducible rfl)
      try simp only [Act.put, List.setIfInBounds_toArray]
      refine wpAnyL_take (i := 1) (v := ?_) rfl (by decide) (by kernel_rfl) (by kernel_rfl) (by kernel_rfl) (fun _ _ _ h => h) rfl ?_ hS ?_
      rotate_left
      · (intro w' hSw; obtain ⟨t0, t1, t2, t3, t4⟩ := hSw; go_simp; try with_reducible rfl)
      try simp only [Act.put]
      refine wpAnyL_take (i := 2) (v := ?_) rfl (by decide) (by kernel_rfl) (by kernel_rfl) (by kernel_rfl) (fun _ _ _ h => h) rfl ?_ hS ?_
      rotate_left
      · (intro w' hSw; obtain ⟨t0, t1, t2, t3, t4⟩ := hSw; go_simp; try with_reducible rfl)
      try simp only [Act.put]
      refine wpAnyL_take (i := 3) (v := ?_) rfl (by decide) (by kernel_rfl) (by kernel_rfl) (by kernel_rfl) (fun _ _ _ h => h) rfl ?_ hS ?_
      rotate_left
      · (intro w' hSw; obtain ⟨t0, t1, t2, t3, t4⟩ := hSw; go_simp; try with_reducible rfl)
      try simp only [Act.put]
      refine wpAnyL_take (i := 4) (v := ?_) rfl (by decide) (by kernel_rfl) (by kernel_rfl) (by kernel_rfl) (fun _ _ _ h => h) rfl ?_ hS ?_
      rotate_left
      · (intro w' hSw; obtain ⟨t0, t1, t2, t3, t4⟩ := hSw; go_simp; try with_reducible rfl)
      try simp only [Act.put]
      refine wpAnyL_take (i := 5) (v := ?_) rfl (by decide) (by kernel_rfl) (by kernel_rfl) (by kernel_rfl) (fun _ _ _ h => h) rfl ?_ hS ?_
      rotate_left
      · (intro w' hSw; obtain ⟨t0, t1, t2, t3, t4⟩ := hSw; go_simp; try with_reducible rfl)
      try simp only [Act.put]
      refine wpAnyL_take (i := 6) (v := ?_) rfl (by decide) (by kernel_rfl) (by kernel_rfl) (by kernel_rfl) (fun _ _ _ h => h) rfl ?_ hS ?_
      rotate_left
      · (intro w' hSw; obtain ⟨t0, t1, t2, t3, t4⟩ := hSw; go_simp; try with_reducible rfl)
      try simp only [Act.put]
      refine wpAnyL_take (i := 8) (v := ?_) rfl (by decide) (by kernel_rfl) (by kernel_rfl) (by kernel_rfl) (fun _ _ _ h => h) rfl ?_ hS ?_
      rotate_left
      · (intro w' hSw; obtain ⟨t0, t1, t2, t3, t4⟩ := hSw; go_simp; try with_reducible rfl)
      try simp only [Act.put]
      refine wpAnyL_take (i := 9) (v := ?_) rfl (by decide) (by kernel_rfl) (by kernel_rfl) (by kernel_rfl) (fun _ _ _ h => h) rfl ?_ hS ?_
      rotate_left
      · (intro w' hSw; obtain ⟨t0, t1, t2, t3, t4⟩ := hSw; go_simp; try with_reducible rfl)
      try simp only [Act.put]
      refine wpAnyL_take (i := 11) (v := ?_) rfl (by decide) (by kernel_rfl) (by kernel_rfl) (by kernel_rfl) (fun _ _ _ h => h) rfl ?_ hS ?_
      rotate_left
      · (intro w' hSw; obtain ⟨t0, t1, t2, t3, t4⟩ := hSw; go_simp; try with_reducible rfl)
      try simp only [Act.put]
      refine wpAnyL_take (i := 12) (v := ?_) rfl (by decide) (by kernel_rfl) (by kernel_rfl) (by kernel_rfl) (fun _ _ _ h => h) rfl ?_ hS ?_
      rotate_left
      · (intro w' hSw; obtain ⟨t0, t1, t2, t3, t4⟩ := hSw; go_simp; try with_reducible rfl)
      try simp only [Act.put]
      refine wpAnyL_take (i := 14) (v := ?_) rfl (by decide) (by kernel_rfl) (by kernel_rfl) (by kernel_rfl) (fun _ _ _ h => h) rfl ?_ hS ?_
      rotate_left
      · (intro w' hSw; obtain ⟨t0, t1, t2, t3, t4⟩ := hSw; go_simp; try with_reducible rfl)
      try simp only [Act.put]
      refine wpAnyL_take (i := 15) (v := ?_) rfl (by decide) (by kernel_rfl) (by kernel_rfl) (by kernel_rfl) (fun _ _ _ h => h) rfl ?_ hS ?_
      rotate_left
      · (intro w' hSw; obtain ⟨t0, t1, t2, t3, t4⟩ := hSw; go_simp; try with_reducible rfl)
      try simp only [Act.put]
      refine wpAnyL_one (i := 7) rfl (by kernel_rfl) (fun K hK => ?_)
      go_simp
      refine J1.out.mono ?_; rintro e w' ⟨rfl, rfl⟩
      refine hK _ _ hS ?_
      clear hK K
      try simp only [Act.put, List.setIfInBounds_toArray, List.set_cons_zero, List.set_cons_succ]
      refine wpAnyL_one (i := 10) rfl (by kernel_rfl) (fun K hK => ?_)
      go_simp
      refine J2.out.mono ?_; rintro e w' ⟨rfl, rfl⟩
      refine hK _ _ hS ?_
      clear hK K
      try simp only [Act.put, List.setIfInBounds_toArray, List.set_cons_zero, List.set_cons_succ]
      refine wpAnyL_one (i := 13) rfl (by kernel_rfl) (fun K hK => ?_)
      go_simp
      refine J3.out.mono ?_; rintro e w' ⟨rfl, rfl⟩
      refine hK _ _ hS ?_
      clear hK K
      try simp only [Act.put, List.setIfInBounds_toArray, List.set_cons_zero, List.set_cons_succ]
      refine wpAnyL_take (i := 16) (v := ?_) rfl (by decide) (by kernel_rfl) (by kernel_rfl) (by kernel_rfl) (fun _ _ _ h => h) rfl ?_ hS ?_
      rotate_left
      · (intro w' hSw; obtain ⟨t0, t1, t2, t3, t4⟩ := hSw; go_simp; try with_reducible rfl)
      try simp only [Act.put, List.setIfInBounds_toArray]
      refine wpAnyL_one (i := 17) rfl (by kernel_rfl) (fun K hK => ?_)
      go_simp
      refine hK _ _ ?_ ?_
      · obtain ⟨t0, t1, t2, t3, t4⟩ := hS
        have kk := (Keeps.refl (fun _ => False) w4.drew).alloc (.cells #[.int .u32 ((wd o.pre : Nat) : Int), .int .u32 ((wd o.add : Nat) : Int), .int .u32 ((wd o.del : Nat) : Int), .int .i64 o.cost] 160)
        exact ⟨kk.cell t0 (fun h => h), kk.cell t1 (fun h => h), kk.cell t2 (fun h => h), kk.cell t3 (fun h => h), kk.cell t4 (fun h => h)⟩
      clear hK K hS
      try simp only [Act.put, List.setIfInBounds_toArray, List.set_cons_zero, List.set_cons_succ]
      refine wpAnyL_one (i := 18) rfl (by kernel_rfl) (fun K hK => ?_)
      refine step_append_lies _ (by rfl) (.tmp 25) (.tmp 38) 156 (by rfl) bb 160 i0 _ 4 24 Tryz.underlying156 hi0 hz0 hz1 hz2 rfl (by omega) v (wordsOf (t.ops.take k)).length (wopCells (wordsOf (t.ops.take k))) (by rfl) ((HW4.out.own.drew).alloc _) ⟨w4.heap.size, 0, none⟩ 1 1 [.int .u32 ((wd o.pre : Nat) : Int), .int .u32 ((wd o.add : Nat) : Int), .int .u32 ((wd o.del : Nat) : Int), .int .i64 o.cost] (by rfl) (by rfl) (World.news_of_block (cs := #[.int .u32 ((wd o.pre : Nat) : Int), .int .u32 ((wd o.add : Nat) : Int), .int .u32 ((wd o.del : Nat) : Int), .int .i64 o.cost]) (t := 160) (fr := (0, 0)) (heap_alloc_new w4.drew _)) (by simp [Value.oneCell']) (by omega) (by unfold maxLen; omega) (by omega) (by simp; omega) (w4.heap.size + 1) (by simp) ?_
      intro g cap w5 hown hgrow hat hlt5
      have s0 := grown_cell (w4 := w4) hgrow g2 HW4.out.ne
      have s1 := grown_cell (w4 := w4) hgrow c0 hv4
      have s2 := grown_cell (w4 := w4) hgrow c1 hv4
      have s3 := grown_cell (w4 := w4) hgrow c2 hv4
      have s4 := grown_cell (w4 := w4) hgrow c3 hv4
      have sb := Lib.hid (grown_heap (w4 := w4) hgrow HW4.out.blk HW4.out.ne)
      have sz := frozen_of_blk (o := 2) sb.out
      have sl := lt_of_heap sb.out
      refine hK _ _ ⟨s0, s1, s2, s3, s4⟩ ?_
      clear hK K s1 s2 s3 s4
      try simp only [Act.put, List.setIfInBounds_toArray]
      refine wpAnyL_late (i := 19) rfl (by kernel_rfl) (by kernel_rfl) (fun K hK => ?_)
      go_simp
      refine hK _ _ ?_
      clear hK K
      refine wpAnyL_late (i := 20) rfl (by kernel_rfl) (by kernel_rfl) (fun K hK => ?_)
      go_simp
      refine hK _ _ ?_
      clear hK K
      refine wpAnyL_late (i := 21) rfl (by kernel_rfl) (by kernel_rfl) (fun K hK => ?_)
      go_simp
      refine hK _ _ ?_
      clear hK K
      refine wpAnyL_done (by kernel_rfl) ?_ _
      have HN := Lib.hid (show WordsAt (w5.setCell ⟨bb, 2, none⟩ (.slice (some ⟨g, 0, none⟩) ((wordsOf (t.ops.take k)).length + 1) cap)) bb bb (wd t.init) (wd t.goal) (.slice (some ⟨g, 0, none⟩) ((wordsOf (t.ops.take k)).length + 1) cap) (wordsOf (t.ops.take (k + 1))) by
        have e : wordsOf (t.ops.take (k + 1)) = wordsOf (t.ops.take k) ++ [o.word] := by rw [HTK.out]; unfold wordsOf; simp
        rw [e]
        exact WordsAt.push (w4 := w4) (p := o.word) HW4.out hgrow rfl hown hat)
      have HKN := Lib.hid (WordsAt.pushKeeps (w4 := w4) HW4.out hgrow HBB.out KW4.out (.slice (some ⟨g, 0, none⟩) ((wordsOf (t.ops.take k)).length + 1) cap))
      clear hown hgrow hat s0 sz sl
      generalize (w5.setCell ⟨bb, 2, none⟩ (.slice (some ⟨g, 0, none⟩) ((wordsOf (t.ops.take k)).length + 1) cap)) = w6 at HN HKN ⊢
      go_wp2_with fail
      go_roundw
      case rel => exact ⟨k + 1, by omega, by go_num, ⟨_, HN.out⟩, HKN.out⟩
      case measure => simp [intOf]; omega
    · obtain rfl : k = t.ops.length := by omega
      have hf := HW.out
      rw [List.take_length] at hf
      have HFIN := Lib.hid (show WordsAt wr w.heap.size bb (wd t.init) (wd t.goal) v (wordsOf t.ops) from ⟨hf.blk, ownsRow_mono4 hf.own (by have := K2.out.size; have := HBB.out; omega), by have := K2.out.size; have := HBB.out; omega, hf.ne⟩)
      clear hf
      go_wp2_with fail
      go_ret
      exact ⟨bb, v, rfl, HFIN.out, K2.out.trans KW.out⟩

end Go.Proofs.YtjcgkmodmjckjaaGreat

namespace Go.Proofs.YtjcgkmodmjckjaaGreat
open Go.RowKit

theorem Ints.keepsS {S : Nat → Prop} {w w' : World} {v : Value} {l : List Int} (h : Ints w v l) (hk : Keeps S w w') (hs : 0 < l.length → ∀ k, v.ownBlock = some k → ¬ S k) : Ints w' v l := by
  obtain ⟨ao, cap, hv, hm, h⟩ := h
  refine ⟨ao, cap, hv, hm, fun hn => ?_⟩
  obtain ⟨b, off, ha, hc⟩ := h hn
  exact ⟨b, off, ha, fun j x hj => hk.cell (hc j x hj) (hs hn b (by rw [hv, ha]; rfl))⟩
/-- The rows of ReachedFrom: the states and their words. -/
structure Rows (W : World) (base : Nat) (v vw : Value) (L : List Nat) (vs : List Value) : Prop where
  out : W.ownsRow base 22 1 v L.length vs
  words : W.ownsRow base 3 1 vw L.length (L.map fun x : Nat => Value.int .i64 (x : Int))
  st : ∀ (i : Nat) (x : Nat), L[i]? = some x → ∃ u, vs[i]? = some u ∧ Ints W u (facts x) ∧ (0 < (facts x).length → ∀ k, u.ownBlock = some k → v.ownBlock ≠ some k ∧ vw.ownBlock ≠ some k)

/-- A word is that of a set of facts below n. -/
def Good (n : Int) (x : Nat) : Prop := isSetB (facts x) n = true ∧ wd (facts x) = x

theorem good_wd {n : Int} (hn : n ≤ 32) {s : List Int} (hs : isSetB s n = true) : Good n (wd s) := by
  unfold Good
  rw [facts_wd (isSet_mono hs hn)]
  exact ⟨hs, rfl⟩
theorem good_next {n : Int} (hn : n ≤ 32) {o : Opr} (ho : o.Ok n) {x : Nat} (hx : Good n x) : appL o (facts x) = o.word.can x ∧ aftL n o (facts x) = facts (o.word.next x) ∧ Good n (o.word.next x) := by
  have h1 := appL_word ho hx.1
  have h2 := wd_aftL hn ho hx.1
  rw [hx.2] at h1 h2
  have h3 := isSet_aftL n o (facts x)
  refine ⟨h1, ?_, ?_⟩
  · rw [← h2, facts_wd (isSet_mono h3 hn)]
  · rw [← h2]; exact good_wd hn h3

end Go.Proofs.YtjcgkmodmjckjaaGreat

namespace Go.Proofs.YtjcgkmodmjckjaaGreat
open Go.RowKit Go.Shelf
attribute [local go_sem] Oper.semAt_some

structure Stp where
  op : Nat
  cost : Int
  to : Nat

def stepsFrom : Nat → List Wop → Nat → List Stp
  | _, [], _ => []
  | i, o :: r, s => if o.can s then ⟨i, o.cost, o.next s⟩ :: stepsFrom (i + 1) r s else stepsFrom (i + 1) r s
def wsteps (ops : List Wop) (s : Nat) : List Stp := stepsFrom 0 ops s

theorem stepsFrom_snoc (l : List Wop) (o : Wop) (s : Nat) : ∀ i, stepsFrom i (l ++ [o]) s = stepsFrom i l s ++ (if o.can s then [⟨i + l.length, o.cost, o.next s⟩] else []) := by
  induction l with
  | nil => intro i; simp only [List.nil_append, stepsFrom, List.length_nil, Nat.add_zero]
  | cons a r ih =>
    intro i
    rw [List.cons_append, stepsFrom, stepsFrom, ih]
    have : i + 1 + r.length = i + (a :: r).length := by simp; omega
    rw [this]
    split <;> simp

theorem wsteps_nexts (ops : List Wop) (s : Nat) : (wsteps ops s).map Stp.to = nexts ops s := by
  unfold wsteps nexts
  have : ∀ i, (stepsFrom i ops s).map Stp.to = (ops.filter fun o => o.can s).map fun o => o.next s := by
    induction ops with
    | nil => intro i; rfl
    | cons o r ih =>
      intro i
      rw [stepsFrom]
      cases h : o.can s
      · simp [h, ih]
      · simp [h, ih]
  exact this 0

theorem stepsFrom_mem {l : List Wop} {s : Nat} {x : Stp} : ∀ {i}, x ∈ stepsFrom i l s ↔ ∃ k o, l[k]? = some o ∧ o.can s = true ∧ x = ⟨i + k, o.cost, o.next s⟩ := by
  induction l with
  | nil => intro i; simp [stepsFrom]
  | cons a r ih =>
    intro i
    have hr : (∃ k o, r[k]? = some o ∧ o.can s = true ∧ x = ⟨i + 1 + k, o.cost, o.next s⟩) ↔ ∃ k o, (a :: r)[k + 1]? = some o ∧ o.can s = true ∧ x = ⟨i + (k + 1), o.cost, o.next s⟩ := by
      constructor
      · rintro ⟨k, o, h1, h2, h3⟩; exact ⟨k, o, by simpa using h1, h2, by rw [h3]; congr 1; omega⟩
      · rintro ⟨k, o, h1, h2, h3⟩; exact ⟨k, o, by simpa using h1, h2, by rw [h3]; congr 1; omega⟩
    rw [stepsFrom]
    by_cases h : a.can s = true
    · rw [if_pos h, List.mem_cons, ih, hr]
      constructor
      · rintro (rfl | ⟨k, o, h1, h2, h3⟩)
        · exact ⟨0, a, rfl, h, rfl⟩
        · exact ⟨k + 1, o, h1, h2, h3⟩
      · rintro ⟨k, o, h1, h2, h3⟩
        cases k with
        | zero => simp at h1; subst h1; exact .inl h3
        | succ k => exact .inr ⟨k, o, h1, h2, h3⟩
    · rw [if_neg h, ih, hr]
      constructor
      · rintro ⟨k, o, h1, h2, h3⟩; exact ⟨k + 1, o, h1, h2, h3⟩
      · rintro ⟨k, o, h1, h2, h3⟩
        cases k with
        | zero => simp at h1; subst h1; exact absurd h2 h
        | succ k => exact ⟨k, o, h1, h2, h3⟩

/-- All words of the operators fit 32 bits. -/
def WopsOk (ops : List Wop) : Prop := ∀ o ∈ ops, o.pre < 4294967296 ∧ o.add < 4294967296 ∧ o.del < 4294967296

theorem u32_andNot {a b : Nat} (ha : a < 4294967296) (hb : b < 4294967296) : bits .andNot .u32 (a : Int) (b : Int) = ((andN a b : Nat) : Int) := by
  have hB : ∀ (x y : BitVec 32), x.toNat = a → y.toNat = b → IntKind.u32.wrap ((x &&& ~~~y).toNat : Int) = ((andN a b : Nat) : Int) := by
    intro x y hx hy
    have hn : (~~~y).toNat = b ^^^ 4294967295 := by
      apply Nat.eq_of_testBit_eq
      intro i
      have h1 : (4294967295 : Nat).testBit i = decide (i < 32) := by rw [show (4294967295 : Nat) = 2 ^ 32 - 1 by decide, Nat.testBit_two_pow_sub_one]
      rw [Nat.testBit_xor, h1, ← hy, BitVec.testBit_toNat, BitVec.testBit_toNat, BitVec.getLsbD_not]
      by_cases hi : i < 32
      · simp [hi]
      · simp [hi, BitVec.getLsbD_of_ge y i (by omega)]
    rw [BitVec.toNat_and, hx, hn, IntKind.wrap_u32]
    unfold andN
    have : a &&& (b ^^^ 4294967295) ≤ a := Nat.and_le_left
    omega
  exact hB (BitVec.ofInt 32 (a : Int)) (BitVec.ofInt 32 (b : Int)) (by rw [BitVec.ofInt_natCast, BitVec.toNat_ofNat]; omega) (by rw [BitVec.ofInt_natCast, BitVec.toNat_ofNat]; omega)

theorem can_bits {s : Nat} {o : Wop} (hs : s < 4294967296) (ho : o.pre < 4294967296) : (bits .and .u32 (s : Int) (o.pre : Int) == (o.pre : Int)) = o.can s := by
  rw [(u32_bits hs ho).1]
  unfold Wop.can
  cases h : s &&& o.pre == o.pre with
  | true => rw [beq_iff_eq] at h ⊢; exact_mod_cast h
  | false => rw [beq_eq_false_iff_ne] at h ⊢; intro e; exact h (by exact_mod_cast e)

theorem next_bits {s : Nat} {o : Wop} (hs : s < 4294967296) (hd : o.del < 4294967296) (ha : o.add < 4294967296) : bits .or .u32 (bits .andNot .u32 (s : Int) (o.del : Int)) (o.add : Int) = ((o.next s : Nat) : Int) := by
  rw [u32_andNot hs hd]
  exact (u32_bits (andN_lt (m := 32) hs) ha).2

theorem next_lt {s : Nat} {o : Wop} (hs : s < 4294967296) (ha : o.add < 4294967296) : o.next s < 4294967296 := by
  unfold Wop.next
  exact Nat.or_lt_two_pow (n := 32) (andN_lt hs) ha

/-! ### the methods -/
theorem method_Start (a : Addr) (w : World) : (method 362 50 (.pointer (some a)) "Start").run Tryz.prog w = .ok (188, .pointer (some a)) w := by kernel_rfl
theorem method_Steps (a : Addr) (w : World) : (method 362 50 (.pointer (some a)) "Steps").run Tryz.prog w = .ok (189, .pointer (some a)) w := by kernel_rfl

theorem WordsAt.cells {w : World} {base b s g : Nat} {v : Value} {ops : List Wop} (h : WordsAt w base b s g v ops) : w.cell? ⟨b, 0, none⟩ = some (.int .u32 (s : Int)) ∧ w.cell? ⟨b, 1, none⟩ = some (.int .u32 (g : Int)) ∧ w.cell? ⟨b, 2, none⟩ = some v :=
  ⟨by rw [cell_of_blk h.blk]; rfl, by rw [cell_of_blk h.blk]; rfl, by rw [cell_of_blk h.blk]; rfl⟩

theorem start_any (w : World) (base b s g : Nat) (v : Value) (ops : List Wop) (h : WordsAt w base b s g v ops) :
    Calls Tryz.prog 188 #[.pointer (some ⟨b, 0, none⟩)] w fun e w' => e = .returned (.int .u32 (s : Int)) ∧ w = w' := by
  obtain ⟨c0, c1, c2⟩ := h.cells
  clear h
  go_enter Tryz.func188, Tryz.ntmps188
  go_wp2_with fail
  go_ret
  exact ⟨rfl, rfl⟩

theorem goal_any (w : World) (base b s g x : Nat) (v : Value) (ops : List Wop) (h : WordsAt w base b s g v ops) :
    Calls Tryz.prog 187 #[.pointer (some ⟨b, 0, none⟩), .int .u32 (x : Int)] w fun e w' => e = .returned (.bool (bits .and .u32 (x : Int) (g : Int) == (g : Int))) ∧ ∃ q, w' = w.drewN q := by
  obtain ⟨c0, c1, c2⟩ := h.cells
  clear h
  go_enter Tryz.func187, Tryz.ntmps187
  go_wp2_with fail
  go_quiet (fail)
  go_wp2_with fail
  go_ret
  exact ⟨rfl, nq, rfl⟩

theorem steps_any (w : World) (b : Nat) (x : Nat) :
    Calls Tryz.prog 189 #[.pointer (some ⟨b, 0, none⟩), .int .u32 (x : Int)] w fun e w' =>
      e = .returned (.func (.func 190) #[] #[.pointer (some ⟨w.heap.size, 0, none⟩), .pointer (some ⟨w.heap.size + 1, 0, none⟩)]) ∧ w' = (w.alloc (.cells #[.pointer (some ⟨b, 0, none⟩)] 50)).alloc (.cells #[.int .u32 (x : Int)] 60) := by
  go_enter Tryz.func189, Tryz.ntmps189
  go_wp2_with fail
  go_ret
  exact ⟨rfl, rfl⟩

/-! ### the iterator -/
/-- A step from the word s. -/
abbrev StpOf (ops : List Wop) (s : Nat) := { x : Stp // x ∈ wsteps ops s }
def Stp.val (x : Stp) : Value := .agg #[.int .i64 (x.op : Int), .int .i64 x.cost, .int .u32 (x.to : Int)]

theorem wopCells_get (ops : List Wop) (j : Nat) (o : Wop) (h : ops[j]? = some o) : (wopCells ops)[j * 4]? = some (.int .u32 (o.pre : Int)) ∧ (wopCells ops)[j * 4 + 1]? = some (.int .u32 (o.add : Int)) ∧ (wopCells ops)[j * 4 + 2]? = some (.int .u32 (o.del : Int)) ∧ (wopCells ops)[j * 4 + 3]? = some (.int .i64 o.cost) := by
  induction ops generalizing j with
  | nil => simp at h
  | cons a r ih =>
    have e : wopCells (a :: r) = [.int .u32 (a.pre : Int), .int .u32 (a.add : Int), .int .u32 (a.del : Int), .int .i64 a.cost] ++ wopCells r := by simp [wopCells]
    cases j with
    | zero => simp at h; subst h; simp [wopCells]
    | succ j =>
      simp at h
      obtain ⟨h0, h1, h2, h3⟩ := ih j h
      rw [e, show (j + 1) * 4 = 4 + j * 4 by omega]
      refine ⟨?_, ?_, ?_, ?_⟩
      · rw [List.getElem?_append_right (by simp)]; simpa using h0
      · rw [List.getElem?_append_right (by simp; omega), show 4 + j * 4 + 1 - [Value.int IntKind.u32 (a.pre : Int), Value.int IntKind.u32 (a.add : Int), Value.int IntKind.u32 (a.del : Int), Value.int IntKind.i64 a.cost].length = j * 4 + 1 by simp; omega]; exact h1
      · rw [List.getElem?_append_right (by simp; omega), show 4 + j * 4 + 2 - [Value.int IntKind.u32 (a.pre : Int), Value.int IntKind.u32 (a.add : Int), Value.int IntKind.u32 (a.del : Int), Value.int IntKind.i64 a.cost].length = j * 4 + 2 by simp; omega]; exact h2
      · rw [List.getElem?_append_right (by simp; omega), show 4 + j * 4 + 3 - [Value.int IntKind.u32 (a.pre : Int), Value.int IntKind.u32 (a.add : Int), Value.int IntKind.u32 (a.del : Int), Value.int IntKind.i64 a.cost].length = j * 4 + 3 by simp; omega]; exact h3

theorem WordsAt.opcell {w : World} {base b s g : Nat} {v : Value} {ops : List Wop} (h : WordsAt w base b s g v ops) {k : Nat} {o : Wop} (hk : ops[k]? = some o) :
    ∃ gg cap, v = .slice (some ⟨gg, 0, none⟩) ops.length cap ∧ gg < w.heap.size ∧ w.cell? ⟨gg, k * 4, none⟩ = some (.int .u32 (o.pre : Int)) ∧ w.cell? ⟨gg, k * 4 + 1, none⟩ = some (.int .u32 (o.add : Int)) ∧ w.cell? ⟨gg, k * 4 + 2, none⟩ = some (.int .u32 (o.del : Int)) ∧ w.cell? ⟨gg, k * 4 + 3, none⟩ = some (.int .i64 o.cost) := by
  have hl : k < ops.length := (List.getElem?_eq_some_iff.1 hk).1
  rcases h.own.2 with ⟨_, h0⟩ | ⟨gg, cap, cur, hv, hb, hg, hn, hm, hs, ht⟩
  · omega
  · obtain ⟨e0, e1, e2, e3⟩ := wopCells_get ops k o hk
    have get : ∀ j x, (wopCells ops)[j]? = some x → w.cell? ⟨gg, j, none⟩ = some x := by
      intro j x hx
      rw [cell_of_blk hg]
      rw [← ht, List.getElem?_take] at hx
      split at hx
      · simpa using hx
      · cases hx
    exact ⟨gg, cap, hv, lt_of_heap hg, get _ _ e0, get _ _ e1, get _ _ e2, get _ _ e3⟩

theorem WordsAt.len {w : World} {base b s g : Nat} {v : Value} {ops : List Wop} (h : WordsAt w base b s g v ops) : ∃ ao cap, v = .slice ao ops.length cap := by
  rcases h.own.2 with ⟨hv, h0⟩ | ⟨gg, cap, cur, hv, _⟩
  · exact ⟨none, 0, by rw [hv, h0]⟩
  · exact ⟨_, cap, hv⟩

theorem WordsAt.below {w w' : World} {base b s g n₀ : Nat} {v : Value} {ops : List Wop} (h : WordsAt w base b s g v ops) (hb : Below n₀ w w') (hn : w.heap.size ≤ n₀) : WordsAt w' base b s g v ops :=
  h.keeps0 (Keeps.ofBelow (hb.mono hn) _)

theorem stepsFrom_take {ops : List Wop} {s k : Nat} {o : Wop} (h : ops[k]? = some o) : stepsFrom 0 (ops.take (k + 1)) s = stepsFrom 0 (ops.take k) s ++ (if o.can s then [⟨k, o.cost, o.next s⟩] else []) := by
  have hl : k < ops.length := (List.getElem?_eq_some_iff.1 h).1
  rw [take_getS h, stepsFrom_snoc]
  simp only [List.length_take, Nat.zero_add]
  rw [Nat.min_eq_left (by omega)]

theorem stepsFrom_prefix (l r : List Wop) (s : Nat) : ∀ i, stepsFrom i l s <+: stepsFrom i (l ++ r) s := by
  induction l with
  | nil => intro i; exact List.nil_prefix
  | cons a l ih =>
    intro i
    rw [List.cons_append, stepsFrom, stepsFrom]
    split
    · exact (List.cons_prefix_cons).2 ⟨rfl, ih _⟩
    · exact ih _
theorem stepsTo_prefix (ops : List Wop) (s k : Nat) : stepsFrom 0 (ops.take k) s <+: wsteps ops s := by
  have := stepsFrom_prefix (ops.take k) (ops.drop k) s 0
  rwa [List.take_append_drop] at this

/-- What a round must keep: all that lay below n₀, and block B. -/
def KpS (n₀ B : Nat) (W W' : World) : Prop := Below n₀ W W' ∧ W'.heap[B]? = W.heap[B]?
theorem KpS.refl (n₀ B : Nat) (W : World) : KpS n₀ B W W := ⟨Below.refl _ _, rfl⟩
theorem KpS.trans {n₀ B : Nat} {X Y Z : World} (h : KpS n₀ B X Y) (k : KpS n₀ B Y Z) : KpS n₀ B X Z := ⟨h.1.trans k.1, k.2.trans h.2⟩
theorem KpS.alloc {n₀ B : Nat} {X Y : World} (h : KpS n₀ B X Y) (hn : n₀ ≤ Y.heap.size) (hB : B < Y.heap.size) (o : Obj) : KpS n₀ B X (Y.alloc o) := ⟨h.1.alloc hn o, (Below.heap_alloc Y o B hB).trans h.2⟩
theorem KpS.cell {n₀ B : Nat} {X Y : World} (h : KpS n₀ B X Y) {v : Value} (hc : X.cell? ⟨B, 0, none⟩ = some v) : Y.cell? ⟨B, 0, none⟩ = some v := (World.cell?_of_block h.2).trans hc
theorem KpS.ofKeeps {n₀ B : Nat} {S : Nat → Prop} {X Y : World} (h : Keeps S X Y) (hn : n₀ ≤ X.heap.size) (hs : ∀ k, k < n₀ → ¬ S k) (hB : B < X.heap.size) (hsB : ¬ S B) : KpS n₀ B X Y := ⟨h.toBelow hn hs, h.block B hB hsB⟩
theorem kpS_b {n₀ B : Nat} {w : World} (hn : n₀ ≤ w.heap.size) (hB : B < w.heap.size) (W : World) (l : Nat) (o o' : Obj) (hl : w.heap.size ≤ l) (h : W.heap[l]? = some o) (h1 : o.isCells = false) (h2 : o.isWalk = false) : KpS n₀ B W (W.putObj l o') :=
  ⟨belowK_b hn W l o o' hl h h1 h2, World.putObj_heap_other (by omega)⟩

set_option maxRecDepth 100000 in
set_option maxHeartbeats 2000000 in
theorem steps1_in (F : Fence) (n : Nat) (hF : F.fn 190) (hro : F.round = none) (hn : 1 ≤ n) (l Bw Bs n₀ base b st g s : Nat) (v : Value) (ops : List Wop) (hops : WopsOk ops) (hmany : ops.length ≤ 1000) (hs : s < 4294967296) (J Jx : List (StpOf ops s) → World → Prop)
    (hY : ∀ pre x W, J pre W → pre.length < (wsteps ops s).length → YieldAt F (n - 1) Tryz.prog l #[x.1.val] W fun e W' =>
      (e = .returned (.bool true) ∧ J (pre ++ [x]) W' ∧ KpS n₀ Bs W W') ∨ (e = .returned (.bool false) ∧ Jx (pre ++ [x]) W'))
    (W : World) (hJ : AbidesFrom W.heap.size J) (hn₀ : n₀ ≤ W.heap.size) (hBw : W.cell? ⟨Bw, 0, none⟩ = some (.pointer (some ⟨b, 0, none⟩))) (hBs : W.cell? ⟨Bs, 0, none⟩ = some (.int .u32 (s : Int))) (hls : Bs < W.heap.size) (hw : ∃ w0 : World, WordsAt w0 base b st g v ops ∧ w0.heap.size ≤ n₀ ∧ Below n₀ w0 W) (h0 : J [] W) :
    CallsIn F n Tryz.prog 190 #[.func (.yield l) #[] #[], .pointer (some ⟨Bw, 0, none⟩), .pointer (some ⟨Bs, 0, none⟩)] W fun e W' => (∃ v, e = .returned v) ∧
      ((∃ ys, ys.map Subtype.val = wsteps ops s ∧ J ys W') ∨ (∃ pre, pre.map Subtype.val <+: wsteps ops s ∧ Jx pre W')) := by
  obtain ⟨w0, hw0, hz0, hb0⟩ := hw
  have HW := Lib.hid hw0; have HB0 := Lib.hid hb0
  obtain ⟨c0, c1, c2⟩ := (hw0.below hb0 hz0).cells
  obtain ⟨ao, ca, hv⟩ := hw0.len
  have HLB := Lib.hid (lt_of_heap hw0.blk)
  subst hv
  clear hw0 hb0
  refine callsIn_of_wp Tryz.func190 rfl hF ?_ hro
  simp only [Tryz.ntmps190, List.size_toArray, List.length_cons, List.length_nil, Nat.reduceAdd, Nat.reduceSub, Array.replicate_succ, Array.replicate_zero, List.push_toArray, List.append_toArray, List.nil_append, List.cons_append]
  gi_wp2
  gi_loopw [11] (fun i wr => ∃ k : Nat, k ≤ ops.length ∧ i = .int .i64 (k : Int) ∧ (∃ pre : List (StpOf ops s), pre.map Subtype.val = stepsFrom 0 (ops.take k) s ∧ J pre wr) ∧ KpS n₀ Bs W wr) (fun i _ => ops.length - (intOf i).toNat)
  case atStart => exact ⟨0, Nat.zero_le _, rfl, ⟨[], rfl, h0⟩, KpS.refl _ _ _⟩
  case round =>
    obtain ⟨k, hk, rfl, ⟨pre, hpre, hJp⟩, hnx⟩ := hrel
    by_cases hlt : k < ops.length
    · obtain ⟨o, ho⟩ : ∃ o, ops[k]? = some o := ⟨_, List.getElem?_eq_getElem hlt⟩
      have hwr := HW.out.below (HB0.out.trans hnx.1) hz0
      obtain ⟨d0, d1, d2⟩ := hwr.cells
      obtain ⟨gg, cap, hv, hgl, p0, p1, p2, p3⟩ := hwr.opcell ho
      simp only [Value.slice.injEq] at hv
      obtain ⟨rfl, _, rfl⟩ := hv
      have q2 : wr.cell? ⟨Bs, 0, none⟩ = some (.int .u32 (s : Int)) := hnx.cell hBs
      have hn₀r : n₀ ≤ wr.heap.size := Nat.le_trans hn₀ hnx.1.size
      have hls' : Bs < wr.heap.size := Nat.lt_of_lt_of_le hls hnx.1.size
      obtain ⟨u1, u2, u3⟩ := hops o (List.mem_of_getElem? ho)
      have HTK := Lib.hid (stepsFrom_take (s := s) ho)
      have HPR := Lib.hid hpre
      have HNX := Lib.hid hnx
      cases hc : o.can s with
      | true =>
        have hb : (bits .and .u32 (s : Int) (o.pre : Int) == (o.pre : Int)) = true := by rw [can_bits hs u1, hc]
        have e1 := next_bits (o := o) hs u3 u2
        have hmem : (⟨k, o.cost, o.next s⟩ : Stp) ∈ wsteps ops s := stepsFrom_mem.2 ⟨k, o, ho, hc, by simp⟩
        have hJ' := hJ pre wr (wr.alloc (.cells #[.int .u32 (o.pre : Int), .int .u32 (o.add : Int), .int .u32 (o.del : Int), .int .i64 o.cost] 160)) none hJp (World.grownBy_alloc wr _ none) (fun r e => by cases e)
        have hlen : pre.length < (wsteps ops s).length := by
          have h1 := (stepsTo_prefix ops s (k + 1)).length_le
          rw [HTK.out, hc, if_pos rfl, List.length_append, ← HPR.out] at h1
          simp at h1; omega
        obtain ⟨sx, hsx⟩ : ∃ sx : StpOf ops s, sx.1 = ⟨k, o.cost, o.next s⟩ := ⟨⟨_, hmem⟩, rfl⟩
        obtain ⟨fn, tmps, assign, body, hy, hR⟩ := hY pre sx _ hJ' hlen
        rw [hsx] at hy
        simp only [Stp.val] at hy
        have HN : Hid ((pre ++ [sx]).map Subtype.val = stepsFrom 0 (ops.take (k + 1)) s) := by unfold Hid; rw [HTK.out, hc, if_pos rfl, List.map_append, HPR.out]; simp [hsx]
        have HSX := Lib.hid hsx
        have HC := Lib.hid hc
        have HR := Lib.hid hR
        clear hpre hnx hwr ho hc hmem hsx u1 u2 u3 hJ' hJp hlen hR
        gi_wp2
        refine HR.out.mono ?_
        rintro e W3 (⟨rfl, hJ3, hk3⟩ | ⟨rfl, hJx3⟩)
        · have HJ3 := Lib.hid hJ3
          have HN3 := Lib.hid ((HNX.out.alloc hn₀r hls' (.cells #[.int .u32 (o.pre : Int), .int .u32 (o.add : Int), .int .u32 (o.del : Int), .int .i64 o.cost] 160)).trans hk3)
          clear hJ3 hk3
          gi_wp2
          go_roundw
          case rel => exact ⟨k + 1, by omega, by go_num, ⟨_, HN.out, HJ3.out⟩, HN3.out⟩
          case measure => simp [intOf]; omega
        · have HJx3 := Lib.hid hJx3
          clear hJx3
          gi_wp2
          refine bodyPost_ret (results_none rfl _ _ _) rfl ?_
          exact ⟨⟨_, rfl⟩, .inr ⟨_, by rw [HN.out]; exact stepsTo_prefix ops s (k + 1), HJx3.out⟩⟩
      | false =>
        have hb : (bits .and .u32 (s : Int) (o.pre : Int) == (o.pre : Int)) = false := by rw [can_bits hs u1, hc]
        have HN : Hid (pre.map Subtype.val = stepsFrom 0 (ops.take (k + 1)) s) := by unfold Hid; rw [HTK.out, hc]; simpa using HPR.out
        have HJ' := Lib.hid (hJ pre wr (wr.alloc (.cells #[.int .u32 (o.pre : Int), .int .u32 (o.add : Int), .int .u32 (o.del : Int), .int .i64 o.cost] 160)) none hJp (World.grownBy_alloc wr _ none) (fun r e => by cases e))
        clear hpre hnx hwr ho hc u1 u2 u3 hJp
        gi_wp2
        refine ⟨fun _ h => (by cases h), ?_⟩
        gi_wp2
        go_roundw
        case rel => exact ⟨k + 1, by omega, by go_num, ⟨pre, HN.out, HJ'.out⟩, HNX.out.alloc hn₀r hls' _⟩
        case measure => simp [intOf]; omega
    · obtain rfl : k = ops.length := by omega
      rw [List.take_length] at hpre
      gi_wp2
      go_end0
      exact ⟨⟨_, rfl⟩, .inl ⟨pre, hpre, hJp⟩⟩

/-- What Steps hands back gives the steps, in their order; or the first of them. -/
theorem steps_stops (F : Fence) (n : Nat) (hF : F.fn 190) (hro : F.round = none) (hn : 1 ≤ n) (Bw Bs n₀ base b st g s : Nat) (v : Value) (ops : List Wop) (hops : WopsOk ops) (hmany : ops.length ≤ 1000) (hs : s < 4294967296)
    (w : World) (hn₀ : n₀ ≤ w.heap.size) (hBw : w.cell? ⟨Bw, 0, none⟩ = some (.pointer (some ⟨b, 0, none⟩))) (hBs : w.cell? ⟨Bs, 0, none⟩ = some (.int .u32 (s : Int))) (hlw : Bw < w.heap.size) (hls : Bs < w.heap.size) (hw : ∃ w0 : World, WordsAt w0 base b st g v ops ∧ w0.heap.size ≤ n₀ ∧ Below n₀ w0 w) :
    SeqStopsK F n Tryz.prog 190 #[.pointer (some ⟨Bw, 0, none⟩), .pointer (some ⟨Bs, 0, none⟩)] (fun x : StpOf ops s => #[x.1.val]) (KpS n₀ Bs) (fun ys => ys.map Subtype.val = wsteps ops s) (fun pre => pre.map Subtype.val <+: wsteps ops s) (wsteps ops s).length w := by
  intro l J Jx W hW hJ _ hY h0
  obtain ⟨w0, h1, h2, h3⟩ := hw
  have hlt : n₀ ≤ W.heap.size := Nat.le_trans hn₀ hW.size
  have := steps1_in F n hF hro hn l Bw Bs n₀ base b st g s v ops hops hmany hs J Jx hY W hJ hlt ((hW.cell (p := ⟨Bw, 0, none⟩) hlw).trans hBw) ((hW.cell (p := ⟨Bs, 0, none⟩) hls).trans hBs) (Nat.lt_of_lt_of_le hls hW.size) ⟨w0, h1, h2, h3.trans (hW.mono hn₀)⟩ h0
  exact this

end Go.Proofs.YtjcgkmodmjckjaaGreat

namespace Go.Proofs.YtjcgkmodmjckjaaGreat

/-! ### plans -/
/-- The word behind a list of operators, if all of them can be applied. -/
def runOps (ops : List Wop) : Nat → List Nat → Option Nat
  | x, [] => some x
  | x, o :: r => match ops[o]? with
    | none => none
    | some op => if op.can x = true then runOps ops (op.next x) r else none

theorem runOps_append (ops : List Wop) (p q : List Nat) : ∀ x, runOps ops x (p ++ q) = (runOps ops x p).bind fun y => runOps ops y q := by
  induction p with
  | nil => intro x; rfl
  | cons o r ih =>
    intro x
    rw [List.cons_append, runOps, runOps]
    cases ops[o]? with
    | none => rfl
    | some op =>
      simp only
      split
      · exact ih _
      · rfl

theorem runOps_snoc {ops : List Wop} {p : List Nat} {o x z : Nat} (h : runOps ops x (p ++ [o]) = some z) : ∃ y op, runOps ops x p = some y ∧ ops[o]? = some op ∧ op.can y = true ∧ z = op.next y := by
  rw [runOps_append] at h
  cases hp : runOps ops x p with
  | none => rw [hp] at h; cases h
  | some y =>
    rw [hp] at h
    simp only [Option.bind_some, runOps] at h
    cases ho : ops[o]? with
    | none => rw [ho] at h; cases h
    | some op =>
      rw [ho] at h; simp only at h
      split at h
      · rename_i hc; cases h; exact ⟨y, op, rfl, rfl, hc, rfl⟩
      · cases h

theorem runOps_snoc' {ops : List Wop} {p : List Nat} {o x y : Nat} {op : Wop} (h : runOps ops x p = some y) (ho : ops[o]? = some op) (hc : op.can y = true) : runOps ops x (p ++ [o]) = some (op.next y) := by
  rw [runOps_append, h]; simp [runOps, ho, hc]

/-! ### the order of plans: by length, then element by element -/
/-! ### the least plan -/
/-! ### the tree -/
structure Ent where
  to : Nat
  frm : Nat
  op : Nat
  path : List Nat

theorem wsteps_mem {ops : List Wop} {s : Nat} {x : Stp} : x ∈ wsteps ops s ↔ ∃ o, ops[x.op]? = some o ∧ o.can s = true ∧ x.cost = o.cost ∧ x.to = o.next s := by
  unfold wsteps
  rw [stepsFrom_mem]
  constructor
  · rintro ⟨k, o, h1, h2, rfl⟩; exact ⟨o, by simpa using h1, h2, rfl, rfl⟩
  · rintro ⟨o, h1, h2, h3, h4⟩
    refine ⟨x.op, o, h1, h2, ?_⟩
    cases x; simp at *; exact ⟨h3, h4⟩

end Go.Proofs.YtjcgkmodmjckjaaGreat

namespace Go.Proofs.YtjcgkmodmjckjaaGreat

structure Arc where
  frm : Nat
  to : Nat
  op : Nat
  cost : Int

theorem nodup_ix {L : List Nat} (h : L.Nodup) {i j x : Nat} (hi : L[i]? = some x) (hj : L[j]? = some x) : i = j := by
  obtain ⟨l1, g1⟩ := List.getElem?_eq_some_iff.1 hi
  obtain ⟨l2, g2⟩ := List.getElem?_eq_some_iff.1 hj
  exact (List.getElem_inj h).1 (by rw [g1, g2])

/-! ### the arcs -/
def hits (L : List Nat) (i j : Nat) (c : Int) (y : Nat) : Nat → List Arc
  | 0 => []
  | k + 1 => hits L i j c y k ++ (if L[k]? = some y then [⟨i, k, j, c⟩] else [])
def opArcs (ops : List Wop) (L : List Nat) (i x : Nat) : Nat → List Arc
  | 0 => []
  | j + 1 => opArcs ops L i x j ++ (match ops[j]? with
    | some o => if o.can x = true then hits L i j o.cost (o.next x) L.length else []
    | none => [])
def arcsTo (ops : List Wop) (L : List Nat) : Nat → List Arc
  | 0 => []
  | i + 1 => arcsTo ops L i ++ (match L[i]? with
    | some x => opArcs ops L i x ops.length
    | none => [])
/-! ### the steps to go -/
/-- The number of known entries. -/
def known (d : List Int) : Nat := (d.filter fun x => decide (0 ≤ x)).length
/-! ### the greedy way down -/
/-- The list is closed under the steps. -/
def Shut (ops : List Wop) (L : List Nat) : Prop := L.Nodup ∧ ∀ x ∈ L, ∀ o ∈ ops, o.can x = true → o.next x ∈ L

theorem shut_reached {ops : List Wop} {s : Nat} {L : List Nat} (h : reached ops s = some L) : Shut ops L := by
  obtain ⟨h1, _, _, h4⟩ := reached_some h
  refine ⟨h1, fun x hx o ho hc => (h4 _).2 (.step ((h4 x).1 hx) ?_)⟩
  unfold nexts
  exact List.mem_map.2 ⟨o, List.mem_filter.2 ⟨ho, hc⟩, rfl⟩

end Go.Proofs.YtjcgkmodmjckjaaGreat

namespace Go.Proofs.YtjcgkmodmjckjaaGreat
open Go.RowKit

/-- A slice of slices of ints. -/
def Lists (w : World) (v : Value) (ls : List (List Int)) : Prop :=
  ∃ ao cap, v = .slice ao ls.length cap ∧ ls.length ≤ maxLen ∧ (0 < ls.length → ∃ b off, ao = some ⟨b, off, none⟩ ∧ ∀ i l, ls[i]? = some l → ∃ u, w.cell? ⟨b, off + i, none⟩ = some u ∧ Ints w u l)

/-! ### Place -/
/-! ### StateOk -/
/-! ### Reached -/
end Go.Proofs.YtjcgkmodmjckjaaGreat

namespace Go.Proofs.YtjcgkmodmjckjaaGreat
open Go.RowKit

def part (ops : List Wop) (L : List Nat) (p x j : Nat) : List Arc := arcsTo ops L p ++ opArcs ops L p x j
end Go.Proofs.YtjcgkmodmjckjaaGreat
