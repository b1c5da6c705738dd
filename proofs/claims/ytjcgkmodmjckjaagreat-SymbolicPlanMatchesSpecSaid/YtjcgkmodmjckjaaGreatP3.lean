/- diagram.Store: both (And and Or). diagram.Store: And, Or, Literal. Words of facts: space.Word, space.Facts, the reference's Word. strips.Validate. The reference's TaskFault. The reference's Word, Subset, StateOk, Applies. No condition beyond what each theorem says. -/
import Derived.Test.YtjcgkmodmjckjaaGreatP2
import Derived.Test.YtjcgkmodmjckjaaGreatP1

namespace Go.Proofs.YtjcgkmodmjckjaaGreat
open Go.RowKit

theorem opB_comm (op : Nat) (x y : Bool) : opB op x y = opB op y x := by unfold opB; cases x <;> cases y <;> rfl
theorem lev_side {L : Nat} {N : List Dn} (ok : DgOk L N) {a b : Nat} (ha : a < N.length + 2) (h2 : ¬ a < 2) : min (lev L N a) (lev L N b) < L := by
  obtain ⟨i, rfl⟩ : ∃ i, a = i + 2 := ⟨a - 2, by omega⟩
  have := ok.lv i _ (List.getElem?_eq_getElem (by omega))
  rw [lev_node (List.getElem?_eq_getElem (by omega))]
  omega
/-- What an operation may cost at most: `C l` nodes where the pair's level is l, for pairs of the kind Q. -/
structure CostQ (L : Nat) (C : Nat → Nat) (Q : List Dn → Nat → Nat → Prop) : Prop where
  sym : ∀ {N : List Dn} {a b : Nat}, Q N a b → Q N b a
  anti : ∀ {a b : Nat}, a ≤ b → C b ≤ C a
  grow : ∀ {N N' : List Dn} {a b : Nat}, DgOk L N → DgLe N N' → a < N.length + 2 → b < N.length + 2 → Q N a b → Q N' a b
  step : ∀ {N : List Dn} {a b : Nat}, DgOk L N → a < N.length + 2 → b < N.length + 2 → ¬ a < 2 → ¬ b < 2 → Q N a b → ∀ l, l = min (lev L N a) (lev L N b) →
    C (l + 1) + C (l + 1) + nb l ≤ C l ∧ Q N (sideN L N a l).1 (sideN L N b l).1 ∧ Q N (sideN L N a l).2 (sideN L N b l).2
theorem CostQ.all (L : Nat) : CostQ L (lowB L) (fun _ _ _ => True) :=
  ⟨fun _ => trivial, fun h => lowB_anti h, fun _ _ _ _ _ => trivial, fun ok ha hb ha2 hb2 _ l hl => ⟨lowB_step (by rw [hl]; exact lev_side ok ha ha2), trivial, trivial⟩⟩
/-- A literal of p, or what is left of it below. -/
def LitN (N : List Dn) (p k : Nat) : Prop := k < 2 ∨ ∃ n, N[k - 2]? = some n ∧ n.lv = p ∧ n.lo < 2 ∧ n.hi < 2
def litB (L p l : Nat) : Nat := 2 ^ (min (min L 19) (p + 1) - l) - 1
theorem litB_step {L p l : Nat} (hl : l < L) (hp : l ≤ p) : litB L p (l + 1) + litB L p (l + 1) + nb l ≤ litB L p l := by
  unfold litB nb
  by_cases h : l < 19
  · rw [if_pos h]
    obtain ⟨d, hd⟩ : ∃ d, min (min L 19) (p + 1) - l = d + 1 := ⟨min (min L 19) (p + 1) - l - 1, by omega⟩
    rw [show min (min L 19) (p + 1) - (l + 1) = d from by omega, hd, Nat.pow_succ]
    have := Nat.pow_pos (n := d) (show 0 < 2 from by omega)
    omega
  · rw [if_neg h, show min (min L 19) (p + 1) - (l + 1) = 0 from by omega]
    simp
theorem litB_anti {L p a b : Nat} (h : a ≤ b) : litB L p b ≤ litB L p a := by
  unfold litB
  have := Nat.pow_le_pow_right (show 0 < 2 from by omega) (show min (min L 19) (p + 1) - b ≤ min (min L 19) (p + 1) - a from by omega)
  omega
theorem LitN.side {L : Nat} {N : List Dn} {p k l : Nat} (h : LitN N p k) (hk2 : ¬ k < 2) (hl : l ≤ lev L N k) : l ≤ p ∧ LitN N p (sideN L N k l).1 ∧ LitN N p (sideN L N k l).2 := by
  rcases h with h | ⟨n, hn, rfl, h1, h2⟩
  · exact absurd h hk2
  · have e : lev L N k = n.lv := by rw [← lev_node (L := L) hn]; congr 1; omega
    refine ⟨by omega, ?_⟩
    unfold sideN
    by_cases hlt : l < lev L N k
    · rw [if_pos hlt]; exact ⟨.inr ⟨n, hn, rfl, h1, h2⟩, .inr ⟨n, hn, rfl, h1, h2⟩⟩
    · rw [if_neg hlt, hn]; exact ⟨.inl h1, .inl h2⟩
theorem CostQ.lit (L p : Nat) : CostQ L (litB L p) (fun N a b => LitN N p a ∨ LitN N p b) := by
  refine ⟨fun h => h.symm, fun h => litB_anti h, fun _ hle ha hb h => ?_, fun ok ha hb ha2 hb2 h l hl => ?_⟩
  · rcases h with (h | ⟨n, hn, h⟩) | (h | ⟨n, hn, h⟩)
    · exact .inl (.inl h)
    · exact .inl (.inr ⟨n, hle.get hn, h⟩)
    · exact .inr (.inl h)
    · exact .inr (.inr ⟨n, hle.get hn, h⟩)
  · have hL : l < L := by rw [hl]; exact lev_side ok ha ha2
    rcases h with h | h
    · obtain ⟨h1, h2, h3⟩ := h.side (L := L) (l := l) ha2 (by omega)
      exact ⟨litB_step hL h1, .inl h2, .inl h3⟩
    · obtain ⟨h1, h2, h3⟩ := h.side (L := L) (l := l) hb2 (by omega)
      exact ⟨litB_step hL h1, .inr h2, .inr h3⟩
theorem DgPost.min {L : Nat} {N N' : List Dn} {k l l' : Nat} {S : Nat → Bool} (h : DgPost L N N' k (lowB L l) l S) (hl : l' ≤ l) : DgPost L N N' k (lowB L l') l' S := h.weak (lowB_anti hl) hl (fun _ => rfl)
theorem both_step {L : Nat} {N N1 N2 N3 : List Dn} (ok : DgOk L N) {C : Nat → Nat} {a b l op k1 k2 k : Nat} (ha : a < N.length + 2) (hb : b < N.length + 2) (hl : l = min (lev L N a) (lev L N b)) (hL : l < L) (hst : C (l + 1) + C (l + 1) + nb l ≤ C l)
    (p1 : DgPost L N N1 k1 (C (l + 1)) (l + 1) (fun m => opB op (dv N (sideN L N a l).1 m) (dv N (sideN L N b l).1 m)))
    (p2 : DgPost L N1 N2 k2 (C (l + 1)) (l + 1) (fun m => opB op (dv N1 (sideN L N a l).2 m) (dv N1 (sideN L N b l).2 m)))
    (p3 : DgPost L N2 N3 k (nb l) l (fun m => dv N2 (if m.testBit l then k2 else k1) m)) :
    DgPost L N N3 k (C l) l (fun m => opB op (dv N a m) (dv N b m)) ∧ PairOk L N3 op a b k := by
  obtain ⟨a1, a2, _, _, _, _, a7⟩ := side_ok ok ha (by omega) hL (l := l)
  obtain ⟨b1, b2, _, _, _, _, b7⟩ := side_ok ok hb (by omega) hL (l := l)
  have hle := (p1.le.trans p2.le).trans p3.le
  have hval : ∀ m, dv N3 k m = opB op (dv N a m) (dv N b m) := fun m => by
    rw [p3.val, a7, b7]
    cases hm : m.testBit l with
    | true =>
      simp only [if_true]
      rw [p2.val, p1.le.dv ok a2, p1.le.dv ok b2]
    | false =>
      simp only [Bool.false_eq_true, if_false]
      rw [p2.le.dv p1.ok p1.lt, p1.val]
  have hlev : l ≤ lev L N3 k := p3.lev
  refine ⟨⟨hle, p3.ok, p3.lt, hval, hlev, ?_⟩, ⟨Nat.lt_of_lt_of_le ha (by have := hle.len; omega), Nat.lt_of_lt_of_le hb (by have := hle.len; omega), p3.lt, ?_, fun m => ?_⟩⟩
  · have h1 := p1.cnt; have h2 := p2.cnt; have h3 := p3.cnt; omega
  · rw [hle.lev ha, hle.lev hb, ← hl]; exact hlev
  · rw [hval, hle.dv ok ha, hle.dv ok hb]
theorem DgM.putp {w w' : World} {sb mf mp L : Nat} {N : List Dn} {v : Value} {fm pm : K3 → Option Nat} {op a b k : Nat} (h : DgM w sb mf mp L N v fm pm) (hm : TMap w' mp (put3 pm (op, a, b) k)) (hk : Keeps (fun j => j = mp) w w') (hp : PairOk L N op a b k) : DgM w' sb mf mp L N v fm (put3 pm (op, a, b) k) :=
  ⟨hk.heap h.blk (fun e => h.ne.2.1 e.symm), heap_row h.row hk (fun k hk e => (h.row_ne k hk).2.2.1 e), h.f.keeps hk h.fp, hm, h.fp, h.ok, h.fok, fun op' a' b' k' hq => by
    unfold put3 at hq
    by_cases he : (op', a', b') = (op, a, b)
    · rw [if_pos he] at hq; cases hq
      simp only [Prod.mk.injEq] at he
      obtain ⟨rfl, rfl, rfl⟩ := he
      exact hp
    · rw [if_neg he] at hq; exact h.pok _ _ _ _ hq⟩
theorem news {G G' G'' : Nat → Prop} {w w' : World} (h : ∀ q, G' q → G q ∨ w.heap.size ≤ q) (h' : ∀ q, G'' q → G' q ∨ w'.heap.size ≤ q) (hs : w.heap.size ≤ w'.heap.size) : ∀ q, G'' q → G q ∨ w.heap.size ≤ q := fun q hq => by
  rcases h' q hq with h1 | h1
  · exact h q h1
  · exact .inr (Nat.le_trans hs h1)
/-- The claim for one pair, given that for the pairs below. -/
def BothAt (L op : Nat) (C : Nat → Nat) (Q : List Dn → Nat → Nat → Prop) (d : Nat) : Prop := ∀ (w : World) (sb : Nat) (N : List Dn) (G : Nat → Prop) (a b l : Nat) (S : Nat → Bool), Dg w sb L N G → Q N a b → a < N.length + 2 → b < N.length + 2 → l = min (lev L N a) (lev L N b) → (∀ m, S m = opB op (dv N a m) (dv N b m)) → L - l ≤ d → low N + C l ≤ 5800000000000 →
    Calls Tryz.prog 65 #[.pointer (some ⟨sb, 0, none⟩), .int .i64 (op : Int), .int .i64 (a : Int), .int .i64 (b : Int)] w (DgR w sb L N G (C l) l S)

set_option maxRecDepth 100000 in
set_option maxHeartbeats 4000000 in
theorem both_body (L op : Nat) (hL : L ≤ 24) (hop : op = 0 ∨ op = 1) (C : Nat → Nat) (Q : List Dn → Nat → Nat → Prop) (hC : CostQ L C Q) (d : Nat) (ih : ∀ d', d' + 1 = d → BothAt L op C Q d') : BothAt L op C Q d := by
  intro w sb N G a b l S h hQ ha hb hl hS hd hbig
  have HD := Lib.hid h
  have ok := h.ok
  have hin : ∀ q, G q → G q ∨ w.heap.size ≤ q := fun q h => .inl h
  by_cases hab : a = b
  · subst hab
    have q1 : ((a : Int) == (a : Int)) = true := by simp
    have HR := Lib.hid (show DgPost L N N a (C l) l S from .same ok (by omega) (fun m => by rw [hS]; unfold opB; rcases hop with rfl | rfl <;> simp) (by omega))
    clear ok ha hb hl hS hd hbig h ih hL hQ hC
    go_enter Tryz.func65, Tryz.ntmps65
    go_wp2_with fail
    go_ret
    exact ⟨_, N, G, rfl, HR.out, HD.out, Keeps.refl _ _, hin⟩
  have q1 : ((a : Int) == (b : Int)) = false := by simp; omega
  have hz0 : ∀ m, dv N 0 m = false := fun m => dv_zero m
  have hz1 : ∀ m, dv N 1 m = true := fun m => dv_one m
  have hl0 : lev L N 0 = L := lev_lt (by omega)
  have hl1 : lev L N 1 = L := lev_lt (by omega)
  have hla := ok.lev_le a
  have hlb := ok.lev_le b
  by_cases ha2 : a < 2
  · by_cases hb2 : b < 2
    · have hc : (a = 0 ∧ b = 1) ∨ (a = 1 ∧ b = 0) := by omega
      rcases hc with ⟨rfl, rfl⟩ | ⟨rfl, rfl⟩ <;> rcases hop with rfl | rfl
      ·

        have HR := Lib.hid (show DgPost L N N 0 (C l) l S from .same ok (by omega) (fun m => by rw [hS]; rw [hz0, hz1]; rfl) (by simp only [hl0, hl1] at hl ⊢; omega))
        clear ok ha hb hl hS hd hbig h ih hL hQ hC
        go_enter Tryz.func65, Tryz.ntmps65
        go_wp2_with fail
        go_ret
        exact ⟨_, N, G, rfl, HR.out, HD.out, Keeps.refl _ _, hin⟩
      ·

        have HR := Lib.hid (show DgPost L N N 1 (C l) l S from .same ok (by omega) (fun m => by rw [hS]; rw [hz0, hz1]; rfl) (by simp only [hl0, hl1] at hl ⊢; omega))
        clear ok ha hb hl hS hd hbig h ih hL hQ hC
        go_enter Tryz.func65, Tryz.ntmps65
        go_wp2_with fail
        go_ret
        exact ⟨_, N, G, rfl, HR.out, HD.out, Keeps.refl _ _, hin⟩
      ·

        have HR := Lib.hid (show DgPost L N N 0 (C l) l S from .same ok (by omega) (fun m => by rw [hS]; rw [hz0, hz1]; rfl) (by simp only [hl0, hl1] at hl ⊢; omega))
        clear ok ha hb hl hS hd hbig h ih hL hQ hC
        go_enter Tryz.func65, Tryz.ntmps65
        go_wp2_with fail
        go_ret
        exact ⟨_, N, G, rfl, HR.out, HD.out, Keeps.refl _ _, hin⟩
      ·

        have HR := Lib.hid (show DgPost L N N 1 (C l) l S from .same ok (by omega) (fun m => by rw [hS]; rw [hz0, hz1]; rfl) (by simp only [hl0, hl1] at hl ⊢; omega))
        clear ok ha hb hl hS hd hbig h ih hL hQ hC
        go_enter Tryz.func65, Tryz.ntmps65
        go_wp2_with fail
        go_ret
        exact ⟨_, N, G, rfl, HR.out, HD.out, Keeps.refl _ _, hin⟩
    · have q2 : decide ((b : Int) < 2) = false := by simp; omega
      have hc : a = 0 ∨ a = 1 := by omega
      rcases hc with rfl | rfl <;> rcases hop with rfl | rfl
      ·

        have HR := Lib.hid (show DgPost L N N 0 (C l) l S from .same ok (by omega) (fun m => by rw [hS]; rw [hz0]; rfl) (by first | omega | (simp only [hl0, hl1] at hl ⊢; omega)))
        clear ok ha hb hl hS hd hbig h ih hL hQ hC
        go_enter Tryz.func65, Tryz.ntmps65
        go_wp2_with fail
        go_ret
        exact ⟨_, N, G, rfl, HR.out, HD.out, Keeps.refl _ _, hin⟩
      ·

        have HR := Lib.hid (show DgPost L N N b (C l) l S from .same ok (by omega) (fun m => by rw [hS]; rw [hz0]; rfl) (by first | omega | (simp only [hl0, hl1] at hl ⊢; omega)))
        clear ok ha hb hl hS hd hbig h ih hL hQ hC
        go_enter Tryz.func65, Tryz.ntmps65
        go_wp2_with fail
        go_ret
        exact ⟨_, N, G, rfl, HR.out, HD.out, Keeps.refl _ _, hin⟩
      ·

        have HR := Lib.hid (show DgPost L N N b (C l) l S from .same ok (by omega) (fun m => by rw [hS]; rw [hz1]; rfl) (by first | omega | (simp only [hl0, hl1] at hl ⊢; omega)))
        clear ok ha hb hl hS hd hbig h ih hL hQ hC
        go_enter Tryz.func65, Tryz.ntmps65
        go_wp2_with fail
        go_ret
        exact ⟨_, N, G, rfl, HR.out, HD.out, Keeps.refl _ _, hin⟩
      ·

        have HR := Lib.hid (show DgPost L N N 1 (C l) l S from .same ok (by omega) (fun m => by rw [hS]; rw [hz1]; rfl) (by first | omega | (simp only [hl0, hl1] at hl ⊢; omega)))
        clear ok ha hb hl hS hd hbig h ih hL hQ hC
        go_enter Tryz.func65, Tryz.ntmps65
        go_wp2_with fail
        go_ret
        exact ⟨_, N, G, rfl, HR.out, HD.out, Keeps.refl _ _, hin⟩
  · have q3 : decide ((a : Int) < 2) = false := by simp; omega
    by_cases hb2 : b < 2
    · have hc : b = 0 ∨ b = 1 := by omega
      rcases hc with rfl | rfl <;> rcases hop with rfl | rfl
      ·

        have HR := Lib.hid (show DgPost L N N 0 (C l) l S from .same ok (by omega) (fun m => by rw [hS]; rw [opB_comm, hz0]; rfl) (by first | omega | (simp only [hl0, hl1] at hl ⊢; omega)))
        clear ok ha hb hl hS hd hbig h ih hL hQ hC
        go_enter Tryz.func65, Tryz.ntmps65
        go_wp2_with fail
        go_ret
        exact ⟨_, N, G, rfl, HR.out, HD.out, Keeps.refl _ _, hin⟩
      ·

        have HR := Lib.hid (show DgPost L N N a (C l) l S from .same ok (by omega) (fun m => by rw [hS]; rw [opB_comm, hz0]; rfl) (by first | omega | (simp only [hl0, hl1] at hl ⊢; omega)))
        clear ok ha hb hl hS hd hbig h ih hL hQ hC
        go_enter Tryz.func65, Tryz.ntmps65
        go_wp2_with fail
        go_ret
        exact ⟨_, N, G, rfl, HR.out, HD.out, Keeps.refl _ _, hin⟩
      ·

        have HR := Lib.hid (show DgPost L N N a (C l) l S from .same ok (by omega) (fun m => by rw [hS]; rw [opB_comm, hz1]; rfl) (by first | omega | (simp only [hl0, hl1] at hl ⊢; omega)))
        clear ok ha hb hl hS hd hbig h ih hL hQ hC
        go_enter Tryz.func65, Tryz.ntmps65
        go_wp2_with fail
        go_ret
        exact ⟨_, N, G, rfl, HR.out, HD.out, Keeps.refl _ _, hin⟩
      ·

        have HR := Lib.hid (show DgPost L N N 1 (C l) l S from .same ok (by omega) (fun m => by rw [hS]; rw [opB_comm, hz1]; rfl) (by first | omega | (simp only [hl0, hl1] at hl ⊢; omega)))
        clear ok ha hb hl hS hd hbig h ih hL hQ hC
        go_enter Tryz.func65, Tryz.ntmps65
        go_wp2_with fail
        go_ret
        exact ⟨_, N, G, rfl, HR.out, HD.out, Keeps.refl _ _, hin⟩
    · have q4 : decide ((b : Int) < 2) = false := by simp; omega
      clear hz0 hz1 hl0 hl1 hla hlb
      have hlL : l < L := by rw [hl]; exact lev_side ok ha ha2
      go_enter Tryz.func65, Tryz.ntmps65
      go_upto_region 9 with fail
      iterate 11 go_step
      rename_i hkont
      refine hkont _ _ ?_
      clear hkont
      go_cut [2, 3] from 9 (fun s2 s3 wc => wc = w ∧ ∃ x y : Nat, s2 = .int .i64 (x : Int) ∧ s3 = .int .i64 (y : Int) ∧ (x = a ∧ y = b ∨ x = b ∧ y = a))
      case first =>
        clear ok ha hb hl hS hd hbig h ih hL ha2 hb2 hab hQ hC
        go_wp2
        · go_meet
          case rel => exact ⟨rfl, b, a, rfl, rfl, .inr ⟨rfl, rfl⟩⟩
        · go_meet
          case rel => exact ⟨rfl, a, b, rfl, rfl, .inl ⟨rfl, rfl⟩⟩
      case rest =>
        obtain ⟨rfl, x, y, rfl, rfl, hxy⟩ := hcut
        obtain ⟨hx, hy, hl', hS', hst, hq1, hq2⟩ : x < N.length + 2 ∧ y < N.length + 2 ∧ l = min (lev L N x) (lev L N y) ∧ (∀ m, S m = opB op (dv N x m) (dv N y m)) ∧ C (l + 1) + C (l + 1) + nb l ≤ C l ∧ Q N (sideN L N x l).1 (sideN L N y l).1 ∧ Q N (sideN L N x l).2 (sideN L N y l).2 := by
          rcases hxy with ⟨rfl, rfl⟩ | ⟨rfl, rfl⟩
          · exact ⟨ha, hb, hl, hS, hC.step ok ha hb ha2 hb2 hQ l hl⟩
          · have hl2 : l = min (lev L N x) (lev L N y) := by rw [hl, Nat.min_comm]
            exact ⟨hb, ha, hl2, fun m => by rw [hS, opB_comm], hC.step ok hb ha hb2 ha2 (hC.sym hQ) l hl2⟩
        have HCQ := Lib.hid hC; have HST := Lib.hid hst; have HQ1 := Lib.hid hq1; have HQ2 := Lib.hid hq2
        clear hst hq1 hq2 hQ hC
        have HX := Lib.hid hx; have HY := Lib.hid hy; have HL := Lib.hid hl'; have HS := Lib.hid hS'; have HLL := Lib.hid hlL; have HBIG := Lib.hid hbig; have HIH := Lib.hid ih; have HDD := Lib.hid hd; have HL24 := Lib.hid hL
        clear hxy ha hb hl hS hx hy hl' hS' hlL hbig ih hd hL ok h ha2 hb2 hab q1 q3 q4
        obtain ⟨mf, mp, v, fm, pm, hm, hq, hbd⟩ := HD.out
        have KA := (Keeps.refl (fun _ => False) wc).alloc (.cells #[.int .i64 (op : Int), .int .i64 (x : Int), .int .i64 (y : Int)] 164)
        have HKA := Lib.hid KA; have HQ := Lib.hid hq
        have HBX := Lib.hid (show ¬ G wc.heap.size from fun h => by have := hbd _ h; omega)
        have HM := Lib.hid (hm.keeps KA (fun h => h) (fun h => h) (fun h => h) (fun _ _ h => h))
        have HXB := Lib.hid (heap_alloc_new wc (.cells #[.int .i64 (op : Int), .int .i64 (x : Int), .int .i64 (y : Int)] 164))
        have HBD := Lib.hid hbd
        clear KA hm hq hbd
        go_upto_region 12 with fail
        generalize (wc.alloc (.cells #[.int .i64 (op : Int), .int .i64 (x : Int), .int .i64 (y : Int)] 164)) = w1 at HKA HM HXB ⊢
        generalize wc.heap.size = bx at HBX HXB ⊢
        have hb := HM.out.blk
        have c3 : w1.cell? ⟨sb, 3, none⟩ = some (.map (some mp)) := by simp [World.cell?, hb]
        have hlt := lt_of_heap hb
        have x0 : w1.cell? ⟨bx, 0, none⟩ = some (.int .i64 (op : Int)) := by simp [World.cell?, HXB.out]
        have x1 : w1.cell? ⟨bx, 1, none⟩ = some (.int .i64 (x : Int)) := by simp [World.cell?, HXB.out]
        have x2 : w1.cell? ⟨bx, 2, none⟩ = some (.int .i64 (y : Int)) := by simp [World.cell?, HXB.out]
        have xl := lt_of_heap HXB.out
        clear hb
        have hz : ∀ w : World, (zeroValue 3).run Tryz.prog w = .ok (.int .i64 0) w := fun w => by kernel_rfl
        cases hf : pm (op, x, y) with
        | some k =>
          have hlk : ∀ nd, (Instr.lookup 104 (.map (some mp)) (.agg #[.int .i64 (op : Int), .int .i64 (x : Int), .int .i64 (y : Int)]) true).run Tryz.prog (w1.drewN nd) = .ok (.tuple #[.int .i64 (k : Int), .bool true]) (w1.drewN nd) := fun nd =>
            (HM.out.p.keeps ((Keeps.refl (fun _ => False) w1).drewN nd) (fun h => h)).look_some Tryz.underlying104 key3_arr hf
          have HF := Lib.hid (HM.out.pok _ _ _ _ hf)
          clear hf
          go_quiet (fail)
          go_wp2_with fail
          go_ret
          have hp := HF.out
          exact ⟨k, N, G, rfl, .same HM.out.ok hp.lk (fun m => by rw [hp.val, HS.out]) (by rw [HL.out]; exact hp.lev), ⟨mf, mp, v, fm, pm, HM.out.keeps ((Keeps.refl (fun _ => False) w1).drewN _) (fun h => h) (fun h => h) (fun h => h) (fun _ _ h => h), HQ.out, fun q h => Nat.lt_of_lt_of_le (HBD.out q h) HKA.out.size⟩, (HKA.out.drewN _).mono (fun _ _ h => h.elim), hin⟩
        | none =>
          have hlk : ∀ nd, (Instr.lookup 104 (.map (some mp)) (.agg #[.int .i64 (op : Int), .int .i64 (x : Int), .int .i64 (y : Int)]) true).run Tryz.prog (w1.drewN nd) = .ok (.tuple #[.int .i64 0, .bool false]) (w1.drewN nd) := fun nd =>
            (HM.out.p.keeps ((Keeps.refl (fun _ => False) w1).drewN nd) (fun h => h)).look_none Tryz.underlying104 key3_arr (hz _) hf
          clear hf
          go_quiet (fail)
          have KD := (Keeps.refl (fun _ => False) w1).drewN nq
          have HM2 := Lib.hid (HM.out.keeps KD (fun h => h) (fun h => h) (fun h => h) (fun _ _ h => h)); have HXB2 := Lib.hid (KD.heap HXB.out (fun h => h)); have HK2 := Lib.hid (HKA.out.trans KD)
          have HB2 := Lib.hid (show ∀ k, G k → k < (w1.drewN nq).heap.size from fun q h => Nat.lt_of_lt_of_le (HBD.out q h) HKA.out.size)
          clear KD HM HXB HKA hlk c3 hlt x0 x1 x2 xl
          go_upto_region 15 with fail
          generalize w1.drewN nq = w2 at HM2 HXB2 HK2 HB2 ⊢
          go_wp2_with fail
          refine (level_any w2 sb mf mp L N v fm pm x HM2.out HX.out).mono ?_; rintro en w3 ⟨rfl, rfl⟩
          go_wp2_with fail
          refine (level_any w3 sb mf mp L N v fm pm y HM2.out HY.out).mono ?_; rintro en w2 ⟨rfl, rfl⟩
          have hlx : l ≤ lev L N x := by rw [HL.out]; omega
          have hly : l ≤ lev L N y := by rw [HL.out]; omega
          go_upto_region 16 with fail
          first
            | rw [show (if lev L N y < lev L N x then ((lev L N y : Nat) : Int) else ((lev L N x : Nat) : Int)) = (l : Int) from by rw [HL.out]; split <;> omega]
            | rw [show (min ((lev L N x : Nat) : Int) ((lev L N y : Nat) : Int)) = (l : Int) from by rw [HL.out]; omega]
          go_wp2_with fail
          refine (sides_any w2 sb mf mp L N v fm pm x l HM2.out HX.out hlx HLL.out).mono ?_; rintro en w3 ⟨rfl, hk⟩
          have HM3 := Lib.hid (HM2.out.keeps hk (fun h => h) (fun h => h) (fun h => h) (fun _ _ h => h)); have HXB3 := Lib.hid (hk.heap HXB2.out (fun h => h)); have HK3 := Lib.hid (HK2.out.trans hk)
          have HB3 := Lib.hid (show ∀ k, G k → k < w3.heap.size from fun q h => Nat.lt_of_lt_of_le (HB2.out q h) hk.size)
          clear hk HM2 HXB2 HK2 HB2
          go_wp2_with fail
          refine (sides_any w3 sb mf mp L N v fm pm y l HM3.out HY.out hly HLL.out).mono ?_; rintro en w4 ⟨rfl, hk⟩
          have HM4 := Lib.hid (HM3.out.keeps hk (fun h => h) (fun h => h) (fun h => h) (fun _ _ h => h)); have HXB4 := Lib.hid (hk.heap HXB3.out (fun h => h)); have HK4 := Lib.hid (HK3.out.trans hk)
          have HB4 := Lib.hid (show ∀ k, G k → k < w4.heap.size from fun q h => Nat.lt_of_lt_of_le (HB3.out q h) hk.size)
          clear hk HM3 HXB3 HK3 HB3
          have HD4 := Lib.hid (show Dg w4 sb L N G from ⟨mf, mp, v, fm, pm, HM4.out, HQ.out, HB4.out⟩)
          have HSX := Lib.hid (side_ok HM4.out.ok HX.out hlx HLL.out); have HSY := Lib.hid (side_ok HM4.out.ok HY.out hly HLL.out)
          have HOK := Lib.hid HM4.out.ok
          clear hlx hly HM4 HQ HB4 HBD
          go_wp2_with fail
          obtain ⟨d', rfl⟩ : ∃ d', d = d' + 1 := ⟨d - 1, by have := HDD.out; have := HLL.out; omega⟩
          have IH := Lib.hid (HIH.out d' rfl)
          clear HIH
          refine (IH.out w4 sb N G (sideN L N x l).1 (sideN L N y l).1 _ _ HD4.out HQ1.out HSX.out.1 HSY.out.1 rfl (fun m => rfl) (by have := HSX.out.2.2.1; have := HSY.out.2.2.1; have := HDD.out; have := HLL.out; omega) (by
            have h1 := HSX.out.2.2.1; have h2 := HSY.out.2.2.1; have h3 := HBIG.out; have h4 := HST.out
            have h5 : C (min (lev L N (sideN L N x l).1) (lev L N (sideN L N y l).1)) ≤ C (l + 1) := HCQ.out.anti (by omega)
            omega)).mono ?_
          rintro en w5 ⟨k1, N1, G1, rfl, hp1, hd1, hk1, hn1⟩
          have HP1 := Lib.hid (hp1.weak (HCQ.out.anti (a := l + 1) (by have h1 := HSX.out.2.2.1; have h2 := HSY.out.2.2.1; omega)) (l' := l + 1) (by have h1 := HSX.out.2.2.1; have h2 := HSY.out.2.2.1; omega) (fun _ => rfl))
          have HD5 := Lib.hid hd1; have HN1 := Lib.hid hn1; have HK5 := Lib.hid hk1
          have HXB5 := Lib.hid (hk1.heap HXB4.out HBX.out)
          clear hp1 hd1 hk1 hn1
          go_wp2_with fail
          refine (IH.out w5 sb N1 G1 (sideN L N x l).2 (sideN L N y l).2 _ _ HD5.out (HCQ.out.grow HOK.out HP1.out.le HSX.out.2.1 HSY.out.2.1 HQ2.out) (by have := HP1.out.le.len; have := HSX.out.2.1; omega) (by have := HP1.out.le.len; have := HSY.out.2.1; omega) rfl (fun m => rfl) (by
            rw [HP1.out.le.lev HSX.out.2.1, HP1.out.le.lev HSY.out.2.1]
            have := HSX.out.2.2.2.1; have := HSY.out.2.2.2.1; have := HDD.out; have := HLL.out; omega) (by
            rw [HP1.out.le.lev HSX.out.2.1, HP1.out.le.lev HSY.out.2.1]
            have h1 := HSX.out.2.2.2.1; have h2 := HSY.out.2.2.2.1; have h3 := HBIG.out; have h4 := HST.out; have h6 := HP1.out.cnt
            have h5 : C (min (lev L N (sideN L N x l).2) (lev L N (sideN L N y l).2)) ≤ C (l + 1) := HCQ.out.anti (by omega)
            omega)).mono ?_
          rintro en w6 ⟨k2, N2, G2, rfl, hp2, hd2, hk2, hn2⟩
          have h7 : l + 1 ≤ min (lev L N1 (sideN L N x l).2) (lev L N1 (sideN L N y l).2) := by
            rw [HP1.out.le.lev HSX.out.2.1, HP1.out.le.lev HSY.out.2.1]
            have h1 := HSX.out.2.2.2.1; have h2 := HSY.out.2.2.2.1; omega
          have HP2 := Lib.hid (hp2.weak (HCQ.out.anti h7) h7 (fun _ => rfl))
          clear h7
          have HD6 := Lib.hid hd2; have HN2 := Lib.hid hn2; have HK6 := Lib.hid hk2
          have HBX1 := Lib.hid (show ¬ G1 bx from fun h => (HN1.out _ h).elim HBX.out (fun h => by have := lt_of_heap HXB4.out; omega))
          have HXB6 := Lib.hid (hk2.heap HXB5.out HBX1.out)
          clear hp2 hd2 hk2 hn2
          go_wp2_with fail
          refine (node_any w6 sb L N2 G2 l k1 k2 HD6.out HL24.out HLL.out (by have := HP1.out.lt; have := HP2.out.le.len; omega) HP2.out.lt (by rw [HP2.out.le.lev HP1.out.lt]; have := HP1.out.lev; omega) (by have := HP2.out.lev; omega) (by have h1 := HP1.out.cnt; have h2 := HP2.out.cnt; have h3 := HBIG.out; have h4 := HST.out; omega)).mono ?_
          rintro en w7 ⟨k, N3, G3, rfl, hp3, hd3, hk3, hn3⟩
          have HFIN := Lib.hid (both_step HOK.out HX.out HY.out HL.out HLL.out HST.out HP1.out HP2.out hp3)
          have HBX2 := Lib.hid (show ¬ G2 bx from fun h => (HN2.out _ h).elim HBX1.out (fun h => by have := lt_of_heap HXB5.out; omega))
          have HXB7 := Lib.hid (hk3.heap HXB6.out HBX2.out)
          have HK47 := Lib.hid (show Keeps G w4 w7 from (HK5.out.trans' HK6.out HN1.out).trans' hk3 (news HN1.out HN2.out HK5.out.size))
          have HN47 := Lib.hid (news (news HN1.out HN2.out HK5.out.size) hn3 (HK5.out.trans' HK6.out HN1.out).size)
          obtain ⟨mf', mp', v', fm', pm', hm7, hq7, hbd7⟩ := hd3
          have HM7 := Lib.hid hm7; have HQ7 := Lib.hid hq7
          clear hp3 hk3 hn3 hm7 hq7 hbd7 HP1 HP2 HN1 HN2 HK5 HK6 HD5 HD6 HD4 HXB4 HXB5 HXB6 HBX1 HBX2 IH HSX HSY HDD HBIG HST HQ1 HQ2 HCQ
          go_upto_region 19 with fail
          have hb := HM7.out.blk
          have c3 : w7.cell? ⟨sb, 3, none⟩ = some (.map (some mp')) := by simp [World.cell?, hb]
          have hlt := lt_of_heap hb
          have x0 : w7.cell? ⟨bx, 0, none⟩ = some (.int .i64 (op : Int)) := by simp [World.cell?, HXB7.out]
          have x1 : w7.cell? ⟨bx, 1, none⟩ = some (.int .i64 (x : Int)) := by simp [World.cell?, HXB7.out]
          have x2 : w7.cell? ⟨bx, 2, none⟩ = some (.int .i64 (y : Int)) := by simp [World.cell?, HXB7.out]
          have xl := lt_of_heap HXB7.out
          clear hb
          obtain ⟨w8, hr8, hm8, hk8⟩ := (HM7.out.p.keeps ((Keeps.refl (fun _ => False) w7).drew) (fun h => h)).put (P := Tryz.prog) Tryz.underlying104 key3_arr (op, x, y) k
          replace hr8 : (Instr.mapUpdate 104 (.map (some mp')) (.agg #[.int .i64 (op : Int), .int .i64 (x : Int), .int .i64 (y : Int)]) (.int .i64 (k : Int))).run Tryz.prog w7.drew = .ok () w8 := hr8
          have HM8 := Lib.hid hm8; have HK8 := Lib.hid (((Keeps.refl (fun j => j = mp') w7).drew).trans hk8)
          clear hm8 hk8
          go_region
          all_goals
            go_wp2_with fail
            go_ret
            obtain ⟨hp, hpo⟩ := HFIN.out
            refine ⟨k, N3, fun q => G3 q ∧ q < w8.heap.size, rfl, hp.weak (Nat.le_refl _) (Nat.le_refl _) (fun m => by rw [HS.out]), Dg.of (HM7.out.putp HM8.out HK8.out hpo) HQ7.out, ?_, fun q hq => ?_⟩
            · exact ((HK4.out.mono (fun _ _ h => h.elim)).trans HK47.out).trans' HK8.out (fun i hi => by
                have e : i = mp' := hi
                rw [e]
                exact (HN47.out _ HQ7.out.2.2.1).imp (fun h => h) (fun h => Nat.le_trans HK4.out.size h))
            · exact (HN47.out _ hq.1).imp (fun h => h) (fun h => Nat.le_trans HK4.out.size h)


set_option maxRecDepth 100000 in
set_option maxHeartbeats 4000000 in
theorem both_q (L op : Nat) (hL : L ≤ 24) (hop : op = 0 ∨ op = 1) (C : Nat → Nat) (Q : List Dn → Nat → Nat → Prop) (hC : CostQ L C Q) : ∀ d, BothAt L op C Q d := by
  intro d
  induction d with
  | zero => exact both_body L op hL hop C Q hC 0 (fun d' h => by omega)
  | succ d ih => exact both_body L op hL hop C Q hC (d + 1) (fun d' h => by
    obtain rfl : d' = d := by omega
    exact ih)
theorem both_in (L op : Nat) (hL : L ≤ 24) (hop : op = 0 ∨ op = 1) (d : Nat) (w : World) (sb : Nat) (N : List Dn) (G : Nat → Prop) (a b l : Nat) (S : Nat → Bool) (h : Dg w sb L N G) (ha : a < N.length + 2) (hb : b < N.length + 2) (hl : l = min (lev L N a) (lev L N b)) (hS : ∀ m, S m = opB op (dv N a m) (dv N b m)) (hd : L - l ≤ d) (hbig : low N + lowB L l ≤ 5800000000000) :
    Calls Tryz.prog 65 #[.pointer (some ⟨sb, 0, none⟩), .int .i64 (op : Int), .int .i64 (a : Int), .int .i64 (b : Int)] w (DgR w sb L N G (lowB L l) l S) :=
  both_q L op hL hop _ _ (CostQ.all L) d w sb N G a b l S h trivial ha hb hl hS hd hbig

end Go.Proofs.YtjcgkmodmjckjaaGreat

namespace Go.Proofs.YtjcgkmodmjckjaaGreat
open Go.RowKit

theorem both_any (w : World) (sb L op : Nat) (N : List Dn) (G : Nat → Prop) (a b : Nat) (hop : op = 0 ∨ op = 1) (h : Dg w sb L N G) (hL : L ≤ 24) (ha : a < N.length + 2) (hb : b < N.length + 2) (hbig : low N + lowB L (min (lev L N a) (lev L N b)) ≤ 5800000000000) :
    Calls Tryz.prog 65 #[.pointer (some ⟨sb, 0, none⟩), .int .i64 (op : Int), .int .i64 (a : Int), .int .i64 (b : Int)] w (DgR w sb L N G (lowB L (min (lev L N a) (lev L N b))) (min (lev L N a) (lev L N b)) (fun m => opB op (dv N a m) (dv N b m))) :=
  both_in L op hL hop L w sb N G a b _ _ h ha hb rfl (fun _ => rfl) (by omega) hbig

set_option maxRecDepth 100000 in
theorem and_any (w : World) (sb L : Nat) (N : List Dn) (G : Nat → Prop) (a b : Nat) (h : Dg w sb L N G) (hL : L ≤ 24) (ha : a < N.length + 2) (hb : b < N.length + 2) (hbig : low N + lowB L (min (lev L N a) (lev L N b)) ≤ 5800000000000) :
    Calls Tryz.prog 40 #[.pointer (some ⟨sb, 0, none⟩), .int .i64 (a : Int), .int .i64 (b : Int)] w (DgR w sb L N G (lowB L (min (lev L N a) (lev L N b))) (min (lev L N a) (lev L N b)) (fun m => dv N a m && dv N b m)) := by
  have HC := Lib.hid (both_any w sb L 0 N G a b (.inl rfl) h hL ha hb hbig)
  clear h hL ha hb hbig
  go_enter Tryz.func40, Tryz.ntmps40
  go_wp2_with fail
  refine HC.out.mono ?_; rintro e w2 ⟨k, N', G', rfl, hr⟩
  have HR := Lib.hid hr
  clear hr
  go_wp2_with fail
  go_ret
  exact ⟨k, N', G', rfl, HR.out⟩
set_option maxRecDepth 100000 in
/-- And with a literal: cheaper. -/
theorem andLit_any (w : World) (sb L : Nat) (N : List Dn) (G : Nat → Prop) (a b p : Nat) (h : Dg w sb L N G) (hL : L ≤ 24) (ha : a < N.length + 2) (hb : b < N.length + 2) (hp : LitN N p b) (hbig : low N + litB L p 0 ≤ 5800000000000) :
    Calls Tryz.prog 40 #[.pointer (some ⟨sb, 0, none⟩), .int .i64 (a : Int), .int .i64 (b : Int)] w (DgR w sb L N G (litB L p (min (lev L N a) (lev L N b))) (min (lev L N a) (lev L N b)) (fun m => dv N a m && dv N b m)) := by
  have HC := Lib.hid (both_q L 0 hL (.inl rfl) _ _ (CostQ.lit L p) L w sb N G a b _ _ h (.inr hp) ha hb rfl (fun _ => rfl) (by omega) (by have := litB_anti (L := L) (p := p) (Nat.zero_le (min (lev L N a) (lev L N b))); omega))
  clear h hL ha hb hp hbig
  go_enter Tryz.func40, Tryz.ntmps40
  go_wp2_with fail
  refine HC.out.mono ?_; rintro e w2 ⟨k, N', G', rfl, hr⟩
  have HR := Lib.hid hr
  clear hr
  go_wp2_with fail
  go_ret
  exact ⟨k, N', G', rfl, HR.out⟩
set_option maxRecDepth 100000 in
theorem or_any (w : World) (sb L : Nat) (N : List Dn) (G : Nat → Prop) (a b : Nat) (h : Dg w sb L N G) (hL : L ≤ 24) (ha : a < N.length + 2) (hb : b < N.length + 2) (hbig : low N + lowB L (min (lev L N a) (lev L N b)) ≤ 5800000000000) :
    Calls Tryz.prog 27 #[.pointer (some ⟨sb, 0, none⟩), .int .i64 (a : Int), .int .i64 (b : Int)] w (DgR w sb L N G (lowB L (min (lev L N a) (lev L N b))) (min (lev L N a) (lev L N b)) (fun m => dv N a m || dv N b m)) := by
  have HC := Lib.hid (both_any w sb L 1 N G a b (.inr rfl) h hL ha hb hbig)
  clear h hL ha hb hbig
  go_enter Tryz.func27, Tryz.ntmps27
  go_wp2_with fail
  refine HC.out.mono ?_; rintro e w2 ⟨k, N', G', rfl, hr⟩
  have HR := Lib.hid hr
  clear hr
  go_wp2_with fail
  go_ret
  exact ⟨k, N', G', rfl, HR.out⟩
set_option maxRecDepth 100000 in
theorem literal_any (w : World) (sb L : Nat) (N : List Dn) (G : Nat → Prop) (p : Nat) (pos : Bool) (h : Dg w sb L N G) (hL : L ≤ 24) (hp : p < L) (hbig : low N ≤ 5800000000000) :
    Calls Tryz.prog 63 #[.pointer (some ⟨sb, 0, none⟩), .int .i64 (p : Int), .bool pos] w (DgR w sb L N G (nb p) p (fun m => m.testBit p == pos)) := by
  have l0 : lev L N 0 = L := lev_lt (by omega)
  have l1 : lev L N 1 = L := lev_lt (by omega)
  cases pos with
  | true =>
    have HC := Lib.hid (node_any w sb L N G p 0 1 h hL hp (by omega) (by omega) (by omega) (by omega) hbig)
    clear h hL hp hbig l0 l1
    go_enter Tryz.func63, Tryz.ntmps63
    go_wp2_with fail
    refine HC.out.mono ?_; rintro e w2 ⟨k, N', G', rfl, hp, hr⟩
    have HR := Lib.hid hr; have HP := Lib.hid hp
    clear hr hp
    go_wp2_with fail
    go_ret
    exact ⟨k, N', G', rfl, HP.out.weak (Nat.le_refl _) (Nat.le_refl _) (fun m => by cases hm : m.testBit p <;> simp [dv_zero, dv_one]), HR.out⟩
  | false =>
    have HC := Lib.hid (node_any w sb L N G p 1 0 h hL hp (by omega) (by omega) (by omega) (by omega) hbig)
    clear h hL hp hbig l0 l1
    go_enter Tryz.func63, Tryz.ntmps63
    go_wp2_with fail
    refine HC.out.mono ?_; rintro e w2 ⟨k, N', G', rfl, hp, hr⟩
    have HR := Lib.hid hr; have HP := Lib.hid hp
    clear hr hp
    go_wp2_with fail
    go_ret
    exact ⟨k, N', G', rfl, HP.out.weak (Nat.le_refl _) (Nat.le_refl _) (fun m => by cases hm : m.testBit p <;> simp [dv_zero, dv_one]), HR.out⟩

end Go.Proofs.YtjcgkmodmjckjaaGreat

namespace Go.Proofs.YtjcgkmodmjckjaaGreat
open Go.RowKit

theorem u32_bits {a b : Nat} (ha : a < 4294967296) (hb : b < 4294967296) : bits .and .u32 (a : Int) (b : Int) = ((a &&& b : Nat) : Int) ∧ bits .or .u32 (a : Int) (b : Int) = ((a ||| b : Nat) : Int) :=
  bits_nat .u32 32 (by decide) (fun n h0 h1 => by rw [IntKind.wrap_u32]; omega) a b (by omega) (by omega)

theorem wd_lt32 {l : List Int} {n : Int} (hn : n ≤ 32) (h : isSetB l n = true) : wd l < 4294967296 :=
  wd_lt (n := 32) (fun x hx => by have := (isSet_iff.1 h).1 x hx; omega)

theorem pow_cast {p : Nat} (hp : p < 32) : (2 : Int) ^ p % 4294967296 = ((2 ^ p : Nat) : Int) := by
  have h : (2 : Nat) ^ p < 2 ^ 32 := Nat.pow_lt_pow_right (by decide) hp
  have e : ((2 : Int) ^ p) = ((2 ^ p : Nat) : Int) := by simp
  rw [e]
  have h' : (2 : Nat) ^ p < 4294967296 := h
  generalize (2 : Nat) ^ p = q at h' ⊢
  omega

theorem or_pow {u p : Nat} (hu : u < 4294967296) (hp : p < 32) : bits .or .u32 (u : Int) (2 ^ p % 4294967296) = ((u ||| 2 ^ p : Nat) : Int) := by
  rw [pow_cast hp]
  exact (u32_bits hu (by have := Nat.pow_lt_pow_right (a := 2) (by decide) hp; omega)).2

theorem wd_append (a b : List Int) : wd (a ++ b) = wd b ||| wd a := by
  induction a with
  | nil => simp [wd]
  | cons x r ih => rw [List.cons_append, wd, ih, wd, Nat.or_assoc]

theorem wd_take_lt {l : List Int} (h : ∀ x ∈ l, 0 ≤ x ∧ x < 32) (k : Nat) : wd (l.take k) < 4294967296 :=
  wd_lt (n := 32) (fun x hx => h x (List.mem_of_mem_take hx))

set_option maxHeartbeats 1000000 in
theorem word_any (w : World) (v : Value) (l : List Int) (h : Ints w v l) (hl : ∀ x ∈ l, 0 ≤ x ∧ x < 32) :
    Calls Tryz.prog 26 #[v] w fun e w' => e = .returned (.int .u32 (wd l : Nat)) ∧ w = w' := by
  obtain ⟨ao, ca, hv, ma⟩ := h.form
  have CA := Lib.hid (h.cell hv)
  have HL := Lib.hid hl
  subst hv
  clear h hl
  go_enter Tryz.func26, Tryz.ntmps26
  go_wp2_with fail
  go_loop [3, 8] (fun u i => ∃ k : Nat, k ≤ l.length ∧ i = .int .i64 (k : Int) ∧ u = .int .u32 (wd (l.take k) : Nat)) (fun _ i => l.length - (intOf i).toNat)
  case atStart => exact ⟨0, Nat.zero_le _, rfl, rfl⟩
  case round =>
    obtain ⟨k, hk, rfl, rfl⟩ := hrel
    by_cases hlt : k < l.length
    · obtain ⟨ba, oa, rfl, ha'⟩ := CA.out (by omega)
      obtain ⟨x, hx⟩ : ∃ x, l[k]? = some x := ⟨_, List.getElem?_eq_getElem hlt⟩
      have ha1 := ha' k _ hx
      have hb := HL.out x (List.mem_of_getElem? hx)
      have e2 : wd (l.take (k + 1)) = wd (l.take k) ||| 2 ^ x.toNat := by
        rw [take_getS hx, wd_append, Nat.or_comm]; simp [wd]
      have e3 := or_pow (wd_take_lt HL.out k) (by omega : x.toNat < 32)
      rw [← e2] at e3
      have HE := Lib.hid e3
      have hb0 := hb.1
      clear ha' hx e2 e3
      go_wp2_with fail
      go_round
      case rel => exact ⟨k + 1, by omega, by go_num, by rw [HE.out]⟩
      case measure => simp [intOf]; omega
    · have hf : Hid (wd (l.take k) = wd l) := by unfold Hid; rw [List.take_of_length_le (by omega)]
      go_wp2_with fail
      go_ret
      exact ⟨congrArg (fun u : Nat => Ending.returned (Value.int .u32 (u : Int))) hf.out, rfl⟩

/-! ### Facts -/
theorem and_one {x k : Nat} : bits .and .u32 ((x : Int) / 2 ^ k) 1 = if x.testBit k then 1 else 0 := by
  have e : ((x : Int) / 2 ^ k) = ((x / 2 ^ k : Nat) : Int) := by simp
  rw [e]
  generalize hy : x / 2 ^ k = y
  have ht : x.testBit k = decide (y % 2 = 1) := by rw [Nat.testBit_eq_decide_div_mod_eq, hy]
  rw [ht]
  have e1 : bits .and .u32 (y : Int) 1 = ((y % 2 : Nat) : Int) := by
    have hm : (y % 4294967296) % 2 = y % 2 := by omega
    have hB : ∀ (a b : BitVec 32), a.toNat = y % 4294967296 → b.toNat = 1 → IntKind.u32.wrap ((a &&& b).toNat : Int) = ((y % 2 : Nat) : Int) := by
      intro a b ha hb
      rw [BitVec.toNat_and, ha, hb, Nat.and_one_is_mod, hm, IntKind.wrap_u32]
      omega
    exact hB (BitVec.ofInt 32 (y : Int)) (BitVec.ofInt 32 1) (by rw [BitVec.ofInt_natCast, BitVec.toNat_ofNat]) (by decide)
  rw [e1]
  by_cases h : y % 2 = 1
  · simp [h]
  · have : y % 2 = 0 := by omega
    simp [this]

theorem own_grown {e : TypeId} {size n : Nat} {xs : List Value} {w2 wr Wa w4 : World} {v : Value} (h : wr.ownsRow w2.heap.size e size v n xs) (hk : Keeps (fun _ => False) w2 wr) (hWa : Keeps (fun _ => False) wr Wa) (hgrow : Wa.grownBy w4 v.ownBlock) : Keeps (fun _ => False) w2 w4 :=
  (hk.trans hWa).trans' ((Keeps.refl (fun k => v.ownBlock = some k) Wa).grown hgrow (fun _ hk => .inl hk)) (fun b hb => .inr (World.ownsRow.lt h b hb).1)

/-- The facts of a word below a bound. -/
def factsTo (x k : Nat) : List Int := ((List.range k).filter fun p => x.testBit p).map fun p : Nat => (p : Int)
theorem factsTo_succ (x k : Nat) : factsTo x (k + 1) = if x.testBit k then factsTo x k ++ [(k : Int)] else factsTo x k := by
  unfold factsTo
  rw [List.range_succ, List.filter_append, List.map_append]
  cases h : x.testBit k <;> simp [h]
theorem factsTo_le (x k : Nat) : (factsTo x k).length ≤ k := by
  unfold factsTo
  rw [List.length_map]
  have := List.length_filter_le (fun p => x.testBit p) (List.range k)
  simpa using this

set_option maxRecDepth 100000 in
theorem facts_any (w : World) (x : Nat) :
    Calls Tryz.prog 61 #[.int .u32 (x : Int)] w fun e w' => ∃ v, e = .returned v ∧ w'.ownsRow w.heap.size 3 1 v (facts x).length ((facts x).map (Value.int .i64)) ∧ Keeps (fun _ => False) w w' ∧ w.drawn ≤ w'.drawn := by
  obtain ⟨i0, hi0, hz0, hz1, hz2⟩ := info_parts Tryz.info3
  go_enter Tryz.func61, Tryz.ntmps61
  go_wp2_with fail
  go_loopw [3, 5] (fun v i wr => ∃ k : Nat, k ≤ 32 ∧ i = .int .i64 (k : Int) ∧ wr.ownsRow w.heap.size 3 1 v (factsTo x k).length ((factsTo x k).map (Value.int .i64)) ∧ Keeps (fun _ => False) w wr ∧ w.drawn ≤ wr.drawn) (fun _ i _ => 32 - (intOf i).toNat)
  case atStart => exact ⟨0, by omega, rfl, World.ownsRow_nil _ _ _ _, Keeps.refl _ _, Nat.le_refl _⟩
  case round =>
    obtain ⟨k, hk, rfl, hown, hkw, hd⟩ := hrel
    have HO := Lib.hid hown; clear hown
    have KW := Lib.hid hkw; clear hkw
    by_cases hlt : k < 32
    · have hle := factsTo_le x k
      have hsz := KW.out.size
      by_cases ht : x.testBit k = true
      · have hb : (bits .and .u32 ((x : Int) / 2 ^ k) 1 == 1) = true := by rw [and_one, if_pos ht]; rfl
        have HS : Hid (factsTo x (k + 1) = factsTo x k ++ [(k : Int)]) := by unfold Hid; rw [factsTo_succ, if_pos ht]
        clear ht
        obtain ⟨av, cv, hv⟩ := ownsRow_form1 HO.out
        subst hv
        go_wp2_with (at_builtin; refine wpList_append_d rfl _ _ _ rfl w.heap.size 3 i0 _ 1 8 Tryz.underlying22 hi0 hz0 hz1 hz2 rfl (by omega) _ (factsTo x k).length ((factsTo x k).map (Value.int .i64)) (by rfl) (World.ownsRow.alloc HO.out (.cells #[.int .i64 (k : Int)] 3)) ⟨wr.heap.size, 0, none⟩ 1 1 [.int .i64 (k : Int)] (by rfl) (by rfl) ?hnews ?hone (by omega) (by unfold maxLen; omega) (by omega) (by simp; omega) (wr.heap.size + 1) (by simp) ?_)
        case hnews => exact World.news_of_block (cs := #[.int .i64 (k : Int)]) (t := 3) (fr := (0, 0)) (heap_alloc_new _ _)
        case hone => simp [Value.oneCell']
        intro g cap2 w4 hown hgrow hat hlt4 hd4
        have HN := Lib.hid (show w4.ownsRow w.heap.size 3 1 (.slice (some ⟨g, 0, none⟩) ((factsTo x k).length + 1) cap2) (factsTo x (k + 1)).length ((factsTo x (k + 1)).map (Value.int .i64)) by
          rw [HS.out, List.map_append, List.length_append]; exact hown)
        have HKN := Lib.hid (own_grown HO.out KW.out ((Keeps.refl _ wr).alloc (.cells #[.int .i64 (k : Int)] 3)) hgrow)
        have hd5 : w.drawn ≤ w4.drawn := Nat.le_trans hd hd4
        clear hown hgrow hat hd4
        go_wp2_with fail
        go_roundw
        case rel => exact ⟨k + 1, by omega, by go_num, HN.out, HKN.out, hd5⟩
        case measure => simp [intOf]; omega
      · have hb : (bits .and .u32 ((x : Int) / 2 ^ k) 1 == 1) = false := by rw [and_one, if_neg ht]; rfl
        have HS : Hid (factsTo x (k + 1) = factsTo x k) := by unfold Hid; rw [factsTo_succ, if_neg ht]
        clear ht
        go_wp2_with fail
        go_roundw
        case rel => exact ⟨k + 1, by omega, by go_num, by rw [HS.out]; exact HO.out, KW.out, hd⟩
        case measure => simp [intOf]; omega
    · obtain rfl : k = 32 := by omega
      go_wp2_with fail
      go_ret
      exact ⟨_, rfl, HO.out, KW.out, hd⟩

end Go.Proofs.YtjcgkmodmjckjaaGreat

namespace Go.Proofs.YtjcgkmodmjckjaaGreat
open Go.RowKit

theorem opsFault_get {n i : Int} {l : List Opr} {k : Nat} {o : Opr} (h : l[k]? = some o) : opsFault n i (l.drop k) = if opCode o n = 0 then opsFault n (i + 1) (l.drop (k + 1)) else (opCode o n, i) := by
  obtain ⟨h1, h2⟩ := List.getElem?_eq_some_iff.1 h
  rw [List.drop_eq_getElem_cons h1, h2, opsFault]

/-- What a function that keeps its fault in a block of its own knows of that block. -/
structure Flt (w w1 : World) (F : Nat) (T : TypeId) : Prop where
  blk : w1.heap[F]? = some (.cells #[.int .i64 0, .int .i64 0] T (0, 0))
  base : w.heap.size ≤ F
  keep : Keeps (fun _ => False) w w1
theorem Flt.keeps0 {w w1 w2 : World} {F : Nat} {T : TypeId} (h : Flt w w1 F T) (hk : Keeps (fun _ => False) w1 w2) : Flt w w2 F T := ⟨hk.heap h.blk (fun h => h), h.base, h.keep.trans hk⟩
theorem Flt.cells {w w1 : World} {F : Nat} {T : TypeId} (h : Flt w w1 F T) : w1.cell? ⟨F, 0, none⟩ = some (.int .i64 0) ∧ w1.cell? ⟨F, 1, none⟩ = some (.int .i64 0) ∧ w1.frozen? ⟨F, 0, none⟩ = false ∧ w1.frozen? ⟨F, 1, none⟩ = false ∧ F < w1.heap.size :=
  ⟨by rw [cell_of_blk h.blk]; rfl, by rw [cell_of_blk h.blk]; rfl, frozen_of_blk h.blk, frozen_of_blk h.blk, lt_of_heap h.blk⟩
theorem Flt.set {w w1 : World} {F : Nat} {T : TypeId} (h : Flt w w1 F T) (c n : Value) : ((w1.setCell ⟨F, 0, none⟩ c).setCell ⟨F, 1, none⟩ n).heap[F]? = some (.cells #[c, n] T (0, 0)) ∧ Keeps (fun _ => False) w ((w1.setCell ⟨F, 0, none⟩ c).setCell ⟨F, 1, none⟩ n) :=
  ⟨pair_set h.blk c n, h.keep.trans' (keeps_pair F c n) (fun i hi => .inr (by have := h.base; omega))⟩

set_option maxHeartbeats 1000000 in
theorem validate_any (w : World) (vi vg vo : Value) (t : Tsk) (h : TaskAt w vi vg vo t) :
    Calls Tryz.prog 55 #[.agg #[.int .i64 t.n, vi, vg, vo]] w fun e w' => e = .returned (.agg #[.int .i64 (taskFault t).1, .int .i64 (taskFault t).2]) ∧ Keeps (fun _ => False) w w' := by
  obtain ⟨ai, ci, h1, _⟩ := h.init.form
  obtain ⟨ag, cg, h2, _⟩ := h.goal.form
  obtain ⟨ao, co, h3, hmo⟩ := h.ops.form
  subst h1 h2 h3
  have K1 := (Keeps.refl (fun _ => False) w).alloc (.cells #[.int .i64 t.n, .slice ai t.init.length ci, .slice ag t.goal.length cg, .slice ao t.ops.length co] 25)
  have HT := h.keeps0 (K1.alloc (.cells #[.int .i64 0, .int .i64 0] 29))
  have HB := (Four.new w (.int .i64 t.n) (.slice ai t.init.length ci) (.slice ag t.goal.length cg) (.slice ao t.ops.length co) 25).keeps0 ((Keeps.refl _ _).alloc (.cells #[.int .i64 0, .int .i64 0] 29))
  have HF : Flt w ((w.alloc (.cells #[.int .i64 t.n, .slice ai t.init.length ci, .slice ag t.goal.length cg, .slice ao t.ops.length co] 25)).alloc (.cells #[.int .i64 0, .int .i64 0] 29)) (w.heap.size + 1) 29 :=
    ⟨by have := heap_alloc_new (w.alloc (.cells #[.int .i64 t.n, .slice ai t.init.length ci, .slice ag t.goal.length cg, .slice ao t.ops.length co] 25)) (.cells #[.int .i64 0, .int .i64 0] 29); rwa [World.size_alloc] at this, by omega, K1.alloc _⟩
  replace HT := Lib.hid HT; replace HB := Lib.hid HB; replace HF := Lib.hid HF
  clear h K1
  go_enter Tryz.func55, Tryz.ntmps55
  go_upto_region 1 with fail
  generalize ((w.alloc (.cells #[.int .i64 t.n, .slice ai t.init.length ci, .slice ag t.goal.length cg, .slice ao t.ops.length co] 25)).alloc (.cells #[.int .i64 0, .int .i64 0] 29)) = w1 at HT HB HF ⊢
  obtain ⟨d0, d1, d2, d3⟩ := HB.out
  obtain ⟨e0, e1, z0, z1, hF⟩ := HF.out.cells
  by_cases hn : t.n < 0 ∨ 24 < t.n
  · have HP : Hid (taskFault t = (3, -1)) := by unfold Hid taskFault; rw [if_pos (by omega)]
    rcases hn with hn | hn
    all_goals
      go_wp2_with fail
      refine bodyPost_ret (results_cell_row rfl _ _ (w.heap.size + 1) 29 _ (0, 0) _ rfl (HF.out.set (.int .i64 3) (.int .i64 (-1))).1 Tryz.underlying29 rfl (by kernel_rfl)) rfl ?_
      exact ⟨by rw [HP.out], (HF.out.set _ _).2⟩
  · have hn0 : 0 ≤ t.n := by omega
    have hn1 : t.n ≤ 24 := by omega
    have hn2 : ¬ t.n < 0 := by omega
    have hn3 : ¬ 24 < t.n := by omega
    clear hn
    have P1 : taskFault t = if isSetB t.init t.n = false then (5, -2) else
      if isSetB t.goal t.n = false then (5, -3) else
      if 40 < t.ops.length then (2, -1) else opsFault t.n 0 t.ops := by unfold taskFault; rw [if_neg (by omega)]
    cases b1 : isSetB t.init t.n with
    | false =>
      have HP : Hid (taskFault t = (5, -2)) := by unfold Hid; rw [P1, if_pos b1]
      have B1 := Lib.hid b1
      clear b1 P1
      go_wp2_with fail
      refine (sIsSet_val HT.out.init B1.out).mono ?_; rintro e w2 ⟨rfl, rfl⟩
      go_wp2_with fail
      refine bodyPost_ret (results_cell_row rfl _ _ (w.heap.size + 1) 29 _ (0, 0) _ rfl (HF.out.set (.int .i64 5) (.int .i64 (-2))).1 Tryz.underlying29 rfl (by kernel_rfl)) rfl ?_
      exact ⟨by rw [HP.out], (HF.out.set _ _).2⟩
    | true =>
      rw [if_neg (by simp [b1])] at P1
      cases b2 : isSetB t.goal t.n with
      | false =>
        have HP : Hid (taskFault t = (5, -3)) := by unfold Hid; rw [P1, if_pos b2]
        have B1 := Lib.hid b1; have B2 := Lib.hid b2
        clear b1 b2 P1
        go_wp2_with fail
        refine (sIsSet_val HT.out.init B1.out).mono ?_; rintro e w2 ⟨rfl, rfl⟩
        go_wp2_with fail
        refine (sIsSet_val HT.out.goal B2.out).mono ?_; rintro e w2 ⟨rfl, rfl⟩
        go_wp2_with fail
        refine bodyPost_ret (results_cell_row rfl _ _ (w.heap.size + 1) 29 _ (0, 0) _ rfl (HF.out.set (.int .i64 5) (.int .i64 (-3))).1 Tryz.underlying29 rfl (by kernel_rfl)) rfl ?_
        exact ⟨by rw [HP.out], (HF.out.set _ _).2⟩
      | true =>
        rw [if_neg (by simp [b2])] at P1
        have B1 := Lib.hid b1; have B2 := Lib.hid b2
        clear b1 b2
        by_cases h40 : 40 < t.ops.length
        · have HP : Hid (taskFault t = (2, -1)) := by unfold Hid; rw [P1, if_pos h40]
          clear P1
          go_wp2_with fail
          refine (sIsSet_val HT.out.init B1.out).mono ?_; rintro e w2 ⟨rfl, rfl⟩
          go_wp2_with fail
          refine (sIsSet_val HT.out.goal B2.out).mono ?_; rintro e w2 ⟨rfl, rfl⟩
          go_wp2_with fail
          refine bodyPost_ret (results_cell_row rfl _ _ (w.heap.size + 1) 29 _ (0, 0) _ rfl (HF.out.set (.int .i64 2) (.int .i64 (-1))).1 Tryz.underlying29 rfl (by kernel_rfl)) rfl ?_
          exact ⟨by rw [HP.out], (HF.out.set _ _).2⟩
        · rw [if_neg h40] at P1
          have HQ := Lib.hid P1
          have HC := Lib.hid (HT.out.ops.cell rfl)
          clear P1
          go_wp2_with fail
          refine (sIsSet_val HT.out.init B1.out).mono ?_; rintro e w2 ⟨rfl, rfl⟩
          go_wp2_with fail
          refine (sIsSet_val HT.out.goal B2.out).mono ?_; rintro e w2 ⟨rfl, rfl⟩
          go_wp2_with fail
          go_loopw [41] (fun i wr => ∃ k : Nat, k ≤ t.ops.length ∧ i = .int .i64 (k : Int) ∧ opsFault t.n 0 t.ops = opsFault t.n (k : Int) (t.ops.drop k) ∧ Keeps (fun _ => False) w1 wr) (fun i _ => t.ops.length - (intOf i).toNat)
          case atStart => exact ⟨0, Nat.zero_le _, rfl, rfl, Keeps.refl _ _⟩
          case round =>
            obtain ⟨k, hk, rfl, ht, hkw⟩ := hrel
            have HTL := Lib.hid ht; clear ht
            have KW := Lib.hid hkw; clear hkw
            obtain ⟨d0, d1, d2, d3⟩ := HB.out.keeps0 KW.out
            have hbx := (HB.out.keeps0 KW.out).lt
            obtain ⟨e0, e1, z0, z1, hF⟩ := (HF.out.keeps0 KW.out).cells
            by_cases hlt : k < t.ops.length
            · obtain ⟨bo, oo, rfl, hcell⟩ := HC.out (by omega)
              obtain ⟨o, ho⟩ : ∃ o, t.ops[k]? = some o := ⟨_, List.getElem?_eq_getElem hlt⟩
              obtain ⟨va, vb, vc, p0, p1, p2, p3, i1, i2, i3⟩ := hcell k o ho
              have q0 := KW.out.cell p0 (fun h => h)
              have q1 := KW.out.cell p1 (fun h => h)
              have q2 := KW.out.cell p2 (fun h => h)
              have q3 := KW.out.cell p3 (fun h => h)
              have I1 := Lib.hid (i1.keeps0 KW.out); have I2 := Lib.hid (i2.keeps0 KW.out); have I3 := Lib.hid (i3.keeps0 KW.out)
              have HG := Lib.hid (opsFault_get (n := t.n) (i := (k : Int)) ho)
              obtain ⟨a1, k1, f1, _⟩ := i1.form
              obtain ⟨a2, k2, f2, _⟩ := i2.form
              obtain ⟨a3, k3, f3, _⟩ := i3.form
              subst f1 f2 f3
              clear hcell ho p0 p1 p2 p3 i1 i2 i3
              have KA := Lib.hid ((Keeps.refl (fun _ => False) wr).alloc (.cells #[.slice a1 o.pre.length k1, .slice a2 o.add.length k2, .slice a3 o.del.length k3, .int .i64 o.cost] 72))
              have HOP := Lib.hid (fun (w' : World) => operator_any w' (.slice a1 o.pre.length k1) (.slice a2 o.add.length k2) (.slice a3 o.del.length k3) o t.n)
              go_wp2_with fail
              refine (HOP.out _ (I1.out.keeps0 KA.out) (I2.out.keeps0 KA.out) (I3.out.keeps0 KA.out) (by omega)).mono ?_; rintro e w3 ⟨rfl, hk3⟩
              have K3 := Lib.hid (KA.out.trans hk3)
              clear hk3
              by_cases hz : opCode o t.n = 0
              · have HN : Hid (opsFault t.n 0 t.ops = opsFault t.n ((k + 1 : Nat) : Int) (t.ops.drop (k + 1))) := by
                  unfold Hid; rw [HTL.out, HG.out, if_pos hz]; rfl
                have hz' : (opCode o t.n != 0) = false := by simpa using hz
                clear hz
                generalize opCode o t.n = c at hz' ⊢
                go_wp2_with fail
                go_roundw
                case rel => exact ⟨k + 1, by omega, by go_num, HN.out, KW.out.trans K3.out⟩
                case measure => simp [intOf]; omega
              · have HP : Hid (taskFault t = (opCode o t.n, (k : Int))) := by unfold Hid; rw [HQ.out, HTL.out, HG.out, if_neg hz]
                have hz' : (opCode o t.n != 0) = true := by simpa using hz
                clear hz
                have HF4 := Lib.hid ((HF.out.keeps0 KW.out).keeps0 K3.out)
                obtain ⟨e0, e1, z0, z1, hF⟩ := HF4.out.cells
                generalize opCode o t.n = c at hz' HP ⊢
                go_wp2_with fail
                refine bodyPost_ret (results_cell_row rfl _ _ (w.heap.size + 1) 29 _ (0, 0) _ rfl (HF4.out.set (.int .i64 c) (.int .i64 (k : Int))).1 Tryz.underlying29 rfl (by kernel_rfl)) rfl ?_
                exact ⟨by rw [HP.out], (HF4.out.set _ _).2⟩
            · have HP : Hid (taskFault t = (0, 0)) := by unfold Hid; rw [HQ.out, HTL.out, List.drop_of_length_le (by omega)]; rfl
              have HF4 := Lib.hid (HF.out.keeps0 KW.out)
              go_wp2_with fail
              refine bodyPost_ret (results_cell_row rfl _ _ (w.heap.size + 1) 29 _ (0, 0) _ rfl (HF4.out.set (.int .i64 0) (.int .i64 0)).1 Tryz.underlying29 rfl (by kernel_rfl)) rfl ?_
              exact ⟨by rw [HP.out], (HF4.out.set _ _).2⟩

end Go.Proofs.YtjcgkmodmjckjaaGreat

namespace Go.Proofs.YtjcgkmodmjckjaaGreat
open Go.RowKit

theorem rIsSet_b {v : Value} {l : List Int} {n : Int} {b : Bool} (w : World) (h : Ints w v l) (hb : isSetB l n = b) (hn0 : 0 ≤ n) (hn1 : n ≤ 1000) :
    Calls Tryz.prog 53 #[v, .int .i64 n] w fun e w' => e = .returned (.bool b) ∧ Keeps (fun _ => False) w w' := by rw [← hb]; exact rIsSet_val w v l n h hn0 hn1
theorem disjoint_b {va vb : Value} {a b : List Int} {r : Bool} (w : World) (ha : Ints w va a) (hb : Ints w vb b) (hr : disjB a b = r) :
    Calls Tryz.prog 54 #[va, vb] w fun e w' => e = .returned (.bool r) ∧ w = w' := by rw [← hr]; exact disjoint_any w va vb a b ha hb

set_option maxHeartbeats 2000000 in
theorem taskFault_any (w : World) (vi vg vo : Value) (t : Tsk) (h : TaskAt w vi vg vo t) :
    Calls Tryz.prog 22 #[.agg #[.int .i64 t.n, vi, vg, vo]] w fun e w' => e = .returned (.agg #[.int .i64 (taskFault t).1, .int .i64 (taskFault t).2]) ∧ Keeps (fun _ => False) w w' := by
  obtain ⟨ai, ci, h1, _⟩ := h.init.form
  obtain ⟨ag, cg, h2, _⟩ := h.goal.form
  obtain ⟨ao, co, h3, hmo⟩ := h.ops.form
  subst h1 h2 h3
  have K1 := (Keeps.refl (fun _ => False) w).alloc (.cells #[.int .i64 t.n, .slice ai t.init.length ci, .slice ag t.goal.length cg, .slice ao t.ops.length co] 25)
  have HT := h.keeps0 (K1.alloc (.cells #[.int .i64 0, .int .i64 0] 29))
  have HB := (Four.new w (.int .i64 t.n) (.slice ai t.init.length ci) (.slice ag t.goal.length cg) (.slice ao t.ops.length co) 25).keeps0 ((Keeps.refl _ _).alloc (.cells #[.int .i64 0, .int .i64 0] 29))
  have HF : Flt w ((w.alloc (.cells #[.int .i64 t.n, .slice ai t.init.length ci, .slice ag t.goal.length cg, .slice ao t.ops.length co] 25)).alloc (.cells #[.int .i64 0, .int .i64 0] 29)) (w.heap.size + 1) 29 :=
    ⟨by have := heap_alloc_new (w.alloc (.cells #[.int .i64 t.n, .slice ai t.init.length ci, .slice ag t.goal.length cg, .slice ao t.ops.length co] 25)) (.cells #[.int .i64 0, .int .i64 0] 29); rwa [World.size_alloc] at this, by omega, K1.alloc _⟩
  replace HT := Lib.hid HT; replace HB := Lib.hid HB; replace HF := Lib.hid HF
  clear h K1
  go_enter Tryz.func22, Tryz.ntmps22
  go_upto_region 1 with fail
  generalize ((w.alloc (.cells #[.int .i64 t.n, .slice ai t.init.length ci, .slice ag t.goal.length cg, .slice ao t.ops.length co] 25)).alloc (.cells #[.int .i64 0, .int .i64 0] 29)) = w1 at HT HB HF ⊢
  have hbx_w1 := HB.out.lt
  obtain ⟨d0, d1, d2, d3⟩ := HB.out
  by_cases hn : ¬ (0 ≤ t.n ∧ t.n ≤ 24)
  · have HP : Hid (taskFault t = (3, -1)) := by unfold Hid taskFault; rw [if_pos hn]
    have HIN := Lib.hid (inB_false' hn)
    clear hn
    go_wp2_with fail
    refine (in_val _ HIN.out).mono ?_; rintro e w2 ⟨rfl, hw2⟩
    obtain rfl : w1 = w2 := hw2.symm
    go_wp2_with fail
    refine (at_any _ _ _).mono ?_; rintro e wA ⟨rfl, hkA⟩
    have HFA := Lib.hid ((HF.out.keeps0 (Keeps.refl _ _)).keeps0 hkA)
    obtain ⟨e0, e1, z0, z1, hFA⟩ := HFA.out.cells
    clear hkA
    go_wp2_with fail
    refine bodyPost_ret (results_cell_row rfl _ _ (w.heap.size + 1) 29 _ (0, 0) _ rfl (HFA.out.set (.int .i64 3) (.int .i64 (-1))).1 Tryz.underlying29 rfl (by kernel_rfl)) rfl ?_
    exact ⟨by rw [HP.out], (HFA.out.set _ _).2⟩
  · have hn0 : 0 ≤ t.n := by omega
    have hn1 : t.n ≤ 24 := by omega
    have hn1' : t.n ≤ 1000 := by omega
    have P1 : taskFault t = if isSetB t.init t.n = false then (5, -2) else
      if isSetB t.goal t.n = false then (5, -3) else
      if 40 < t.ops.length then (2, -1) else opsFault t.n 0 t.ops := by unfold taskFault; rw [if_neg hn]
    have HIN := Lib.hid (inB_true' hn0 hn1)
    clear hn
    go_wp2_with fail
    refine (in_val _ HIN.out).mono ?_; rintro e w0 ⟨rfl, hw0⟩
    obtain rfl : w1 = w0 := hw0.symm
    cases b1 : isSetB t.init t.n with
    | false =>
      have HP : Hid (taskFault t = (5, -2)) := by unfold Hid; rw [P1, if_pos b1]
      have B1 := Lib.hid b1
      clear b1 P1
      go_wp2_with fail
      refine (rIsSet_b _ HT.out.init B1.out hn0 hn1').mono ?_; rintro e w2 ⟨rfl, hk_w2⟩
      have KA := Lib.hid ((Keeps.refl _ _).trans hk_w2)
      have hbx_w2 := (HB.out.keeps0 KA.out).lt
      obtain ⟨d0, d1, d2, d3⟩ := HB.out.keeps0 KA.out
      clear hk_w2
      go_wp2_with fail
      refine (at_any _ _ _).mono ?_; rintro e wA ⟨rfl, hkA⟩
      have HFA := Lib.hid ((HF.out.keeps0 KA.out).keeps0 hkA)
      obtain ⟨e0, e1, z0, z1, hFA⟩ := HFA.out.cells
      clear hkA
      go_wp2_with fail
      refine bodyPost_ret (results_cell_row rfl _ _ (w.heap.size + 1) 29 _ (0, 0) _ rfl (HFA.out.set (.int .i64 5) (.int .i64 (-2))).1 Tryz.underlying29 rfl (by kernel_rfl)) rfl ?_
      exact ⟨by rw [HP.out], (HFA.out.set _ _).2⟩
    | true =>
      rw [if_neg (by simp [b1])] at P1
      cases b2 : isSetB t.goal t.n with
      | false =>
        have HP : Hid (taskFault t = (5, -3)) := by unfold Hid; rw [P1, if_pos b2]
        have B1 := Lib.hid b1; have B2 := Lib.hid b2
        clear b1 b2 P1
        go_wp2_with fail
        refine (rIsSet_b _ HT.out.init B1.out hn0 hn1').mono ?_; rintro e w2 ⟨rfl, hk_w2⟩
        have KA := Lib.hid ((Keeps.refl _ _).trans hk_w2)
        have hbx_w2 := (HB.out.keeps0 KA.out).lt
        obtain ⟨d0, d1, d2, d3⟩ := HB.out.keeps0 KA.out
        clear hk_w2
        go_wp2_with fail
        refine (rIsSet_b _ (HT.out.goal.keeps0 KA.out) B2.out hn0 hn1').mono ?_; rintro e w3 ⟨rfl, hk_w3⟩
        have KB := Lib.hid (KA.out.trans hk_w3)
        have hbx_w3 := (HB.out.keeps0 KB.out).lt
        obtain ⟨d0, d1, d2, d3⟩ := HB.out.keeps0 KB.out
        clear hk_w3
        go_wp2_with fail
        refine (at_any _ _ _).mono ?_; rintro e wA ⟨rfl, hkA⟩
        have HFA := Lib.hid ((HF.out.keeps0 KB.out).keeps0 hkA)
        obtain ⟨e0, e1, z0, z1, hFA⟩ := HFA.out.cells
        clear hkA
        go_wp2_with fail
        refine bodyPost_ret (results_cell_row rfl _ _ (w.heap.size + 1) 29 _ (0, 0) _ rfl (HFA.out.set (.int .i64 5) (.int .i64 (-3))).1 Tryz.underlying29 rfl (by kernel_rfl)) rfl ?_
        exact ⟨by rw [HP.out], (HFA.out.set _ _).2⟩
      | true =>
        rw [if_neg (by simp [b2])] at P1
        have B1 := Lib.hid b1; have B2 := Lib.hid b2
        clear b1 b2
        by_cases h40 : 40 < t.ops.length
        · have HP : Hid (taskFault t = (2, -1)) := by unfold Hid; rw [P1, if_pos h40]
          clear P1
          go_wp2_with fail
          refine (rIsSet_b _ HT.out.init B1.out hn0 hn1').mono ?_; rintro e w2 ⟨rfl, hk_w2⟩
          have KA := Lib.hid ((Keeps.refl _ _).trans hk_w2)
          have hbx_w2 := (HB.out.keeps0 KA.out).lt
          obtain ⟨d0, d1, d2, d3⟩ := HB.out.keeps0 KA.out
          clear hk_w2
          go_wp2_with fail
          refine (rIsSet_b _ (HT.out.goal.keeps0 KA.out) B2.out hn0 hn1').mono ?_; rintro e w3 ⟨rfl, hk_w3⟩
          have KB := Lib.hid (KA.out.trans hk_w3)
          have hbx_w3 := (HB.out.keeps0 KB.out).lt
          obtain ⟨d0, d1, d2, d3⟩ := HB.out.keeps0 KB.out
          clear hk_w3
          go_wp2_with fail
          refine (at_any _ _ _).mono ?_; rintro e wA ⟨rfl, hkA⟩
          have HFA := Lib.hid ((HF.out.keeps0 KB.out).keeps0 hkA)
          obtain ⟨e0, e1, z0, z1, hFA⟩ := HFA.out.cells
          clear hkA
          go_wp2_with fail
          refine bodyPost_ret (results_cell_row rfl _ _ (w.heap.size + 1) 29 _ (0, 0) _ rfl (HFA.out.set (.int .i64 2) (.int .i64 (-1))).1 Tryz.underlying29 rfl (by kernel_rfl)) rfl ?_
          exact ⟨by rw [HP.out], (HFA.out.set _ _).2⟩
        · rw [if_neg h40] at P1
          have HQ := Lib.hid P1
          clear P1
          go_wp2_with fail
          refine (rIsSet_b _ HT.out.init B1.out hn0 hn1').mono ?_; rintro e w2 ⟨rfl, hk_w2⟩
          have KA := Lib.hid ((Keeps.refl _ _).trans hk_w2)
          have hbx_w2 := (HB.out.keeps0 KA.out).lt
          obtain ⟨d0, d1, d2, d3⟩ := HB.out.keeps0 KA.out
          clear hk_w2
          go_wp2_with fail
          refine (rIsSet_b _ (HT.out.goal.keeps0 KA.out) B2.out hn0 hn1').mono ?_; rintro e w3 ⟨rfl, hk_w3⟩
          have KB := Lib.hid (KA.out.trans hk_w3)
          have hbx_w3 := (HB.out.keeps0 KB.out).lt
          obtain ⟨d0, d1, d2, d3⟩ := HB.out.keeps0 KB.out
          clear hk_w3
          have HC := Lib.hid (HT.out.ops.cell rfl)
          go_wp2_with fail
          go_loopw [3] (fun i wr => ∃ k : Nat, k ≤ t.ops.length ∧ i = .int .i64 (k : Int) ∧ opsFault t.n 0 t.ops = opsFault t.n (k : Int) (t.ops.drop k) ∧ Keeps (fun _ => False) w1 wr) (fun i _ => t.ops.length - (intOf i).toNat)
          case atStart => exact ⟨0, Nat.zero_le _, rfl, rfl, KB.out⟩
          case round =>
            obtain ⟨k, hk, rfl, ht, hkw⟩ := hrel
            have HTL := Lib.hid ht; clear ht
            have KW := Lib.hid hkw; clear hkw
            have hbx := (HB.out.keeps0 KW.out).lt
            obtain ⟨d0, d1, d2, d3⟩ := HB.out.keeps0 KW.out
            by_cases hlt : k < t.ops.length
            · obtain ⟨bo, oo, rfl, hcell⟩ := HC.out (by omega)
              obtain ⟨o, ho⟩ : ∃ o, t.ops[k]? = some o := ⟨_, List.getElem?_eq_getElem hlt⟩
              obtain ⟨va, vb, vc, p0, p1, p2, p3, i1, i2, i3⟩ := hcell k o ho
              have q0 := KW.out.cell p0 (fun h => h)
              have q1 := KW.out.cell p1 (fun h => h)
              have q2 := KW.out.cell p2 (fun h => h)
              have q3 := KW.out.cell p3 (fun h => h)
              obtain ⟨a1, k1, f1, _⟩ := i1.form
              obtain ⟨a2, k2, f2, _⟩ := i2.form
              obtain ⟨a3, k3, f3, _⟩ := i3.form
              subst f1 f2 f3
              have K4 := (Keeps.refl (fun _ => False) wr).alloc (.cells #[.slice a1 o.pre.length k1, .slice a2 o.add.length k2, .slice a3 o.del.length k3, .int .i64 o.cost] 72)
              have HO4 := Four.new wr (.slice a1 o.pre.length k1) (.slice a2 o.add.length k2) (.slice a3 o.del.length k3) (.int .i64 o.cost) 72
              have I1 := Lib.hid (i1.keeps0 (KW.out.trans K4)); have I2 := Lib.hid (i2.keeps0 (KW.out.trans K4)); have I3 := Lib.hid (i3.keeps0 (KW.out.trans K4))
              have HG := Lib.hid (opsFault_get (n := t.n) (i := (k : Int)) ho)
              clear hcell ho p0 p1 p2 p3 i1 i2 i3
              go_upto_region 13 with fail
              have KW4 := Lib.hid (KW.out.trans K4)
              have HO4' := Lib.hid HO4
              have lwr := HO4.lt
              clear K4 HO4
              obtain ⟨bb, hbb⟩ : ∃ bb, wr.heap.size = bb := ⟨_, rfl⟩
              rw [hbb] at HO4' lwr ⊢
              clear q0 q1 q2 q3
              generalize (wr.alloc (.cells #[.slice a1 o.pre.length k1, .slice a2 o.add.length k2, .slice a3 o.del.length k3, .int .i64 o.cost] 72)) = w4 at KW4 HO4' I1 I2 I3 lwr ⊢
              clear hbb
              obtain ⟨d0, d1, d2, d3⟩ := HB.out.keeps0 KW4.out
              have hbx4 := (HB.out.keeps0 KW4.out).lt
              obtain ⟨c0, c1, c2, c3⟩ := HO4'.out
              cases c1_ : isSetB o.pre t.n with
              | false =>
                have HP : Hid (taskFault t = (5, (k : Int))) := by
                  unfold Hid
                  have hc : opCode o t.n = 5 := by unfold opCode; simp [c1_]
                  rw [HQ.out, HTL.out, HG.out, hc, if_neg (by decide)]
                have C1 := Lib.hid c1_
                clear c1_
                go_wp2_with fail
                refine (rIsSet_b _ I1.out C1.out hn0 hn1').mono ?_; rintro e w5 ⟨rfl, hk5⟩
                have KW5 := Lib.hid (KW4.out.trans hk5)
                have M1 := Lib.hid (hk5)
                obtain ⟨d0, d1, d2, d3⟩ := HB.out.keeps0 KW5.out
                obtain ⟨c0, c1, c2, c3⟩ := HO4'.out.keeps0 M1.out
                have hb5 := (HO4'.out.keeps0 M1.out).lt
                have hb6 := (HB.out.keeps0 KW5.out).lt
                clear hk5
                go_wp2_with fail
                refine (at_any _ _ _).mono ?_; rintro e wA ⟨rfl, hkA⟩
                have HFA := Lib.hid ((HF.out.keeps0 KW5.out).keeps0 hkA)
                obtain ⟨e0, e1, z0, z1, hFA⟩ := HFA.out.cells
                clear hkA
                go_wp2_with fail
                refine bodyPost_ret (results_cell_row rfl _ _ (w.heap.size + 1) 29 _ (0, 0) _ rfl (HFA.out.set (.int .i64 5) (.int .i64 (k : Int))).1 Tryz.underlying29 rfl (by kernel_rfl)) rfl ?_
                exact ⟨by rw [HP.out], (HFA.out.set _ _).2⟩
              | true =>
                cases c2_ : isSetB o.add t.n with
                | false =>
                  have HP : Hid (taskFault t = (5, (k : Int))) := by
                    unfold Hid
                    have hc : opCode o t.n = 5 := by unfold opCode; simp [c2_]
                    rw [HQ.out, HTL.out, HG.out, hc, if_neg (by decide)]
                  have C1 := Lib.hid c1_
                  have C2 := Lib.hid c2_
                  clear c1_ c2_
                  go_wp2_with fail
                  refine (rIsSet_b _ I1.out C1.out hn0 hn1').mono ?_; rintro e w5 ⟨rfl, hk5⟩
                  have KW5 := Lib.hid (KW4.out.trans hk5)
                  have M1 := Lib.hid (hk5)
                  obtain ⟨d0, d1, d2, d3⟩ := HB.out.keeps0 KW5.out
                  obtain ⟨c0, c1, c2, c3⟩ := HO4'.out.keeps0 M1.out
                  have hb5 := (HO4'.out.keeps0 M1.out).lt
                  have hb6 := (HB.out.keeps0 KW5.out).lt
                  clear hk5
                  go_wp2_with fail
                  refine (rIsSet_b _ (I2.out.keeps0 M1.out) C2.out hn0 hn1').mono ?_; rintro e w6 ⟨rfl, hk5⟩
                  have KW6 := Lib.hid (KW5.out.trans hk5)
                  have M2 := Lib.hid (M1.out.trans hk5)
                  obtain ⟨d0, d1, d2, d3⟩ := HB.out.keeps0 KW6.out
                  obtain ⟨c0, c1, c2, c3⟩ := HO4'.out.keeps0 M2.out
                  have hb5 := (HO4'.out.keeps0 M2.out).lt
                  have hb6 := (HB.out.keeps0 KW6.out).lt
                  clear hk5
                  go_wp2_with fail
                  refine (at_any _ _ _).mono ?_; rintro e wA ⟨rfl, hkA⟩
                  have HFA := Lib.hid ((HF.out.keeps0 KW6.out).keeps0 hkA)
                  obtain ⟨e0, e1, z0, z1, hFA⟩ := HFA.out.cells
                  clear hkA
                  go_wp2_with fail
                  refine bodyPost_ret (results_cell_row rfl _ _ (w.heap.size + 1) 29 _ (0, 0) _ rfl (HFA.out.set (.int .i64 5) (.int .i64 (k : Int))).1 Tryz.underlying29 rfl (by kernel_rfl)) rfl ?_
                  exact ⟨by rw [HP.out], (HFA.out.set _ _).2⟩
                | true =>
                  cases c3_ : isSetB o.del t.n with
                  | false =>
                    have HP : Hid (taskFault t = (5, (k : Int))) := by
                      unfold Hid
                      have hc : opCode o t.n = 5 := by unfold opCode; simp [c3_]
                      rw [HQ.out, HTL.out, HG.out, hc, if_neg (by decide)]
                    have C1 := Lib.hid c1_
                    have C2 := Lib.hid c2_
                    have C3 := Lib.hid c3_
                    clear c1_ c2_ c3_
                    go_wp2_with fail
                    refine (rIsSet_b _ I1.out C1.out hn0 hn1').mono ?_; rintro e w5 ⟨rfl, hk5⟩
                    have KW5 := Lib.hid (KW4.out.trans hk5)
                    have M1 := Lib.hid (hk5)
                    obtain ⟨d0, d1, d2, d3⟩ := HB.out.keeps0 KW5.out
                    obtain ⟨c0, c1, c2, c3⟩ := HO4'.out.keeps0 M1.out
                    have hb5 := (HO4'.out.keeps0 M1.out).lt
                    have hb6 := (HB.out.keeps0 KW5.out).lt
                    clear hk5
                    go_wp2_with fail
                    refine (rIsSet_b _ (I2.out.keeps0 M1.out) C2.out hn0 hn1').mono ?_; rintro e w6 ⟨rfl, hk5⟩
                    have KW6 := Lib.hid (KW5.out.trans hk5)
                    have M2 := Lib.hid (M1.out.trans hk5)
                    obtain ⟨d0, d1, d2, d3⟩ := HB.out.keeps0 KW6.out
                    obtain ⟨c0, c1, c2, c3⟩ := HO4'.out.keeps0 M2.out
                    have hb5 := (HO4'.out.keeps0 M2.out).lt
                    have hb6 := (HB.out.keeps0 KW6.out).lt
                    clear hk5
                    go_wp2_with fail
                    refine (rIsSet_b _ (I3.out.keeps0 M2.out) C3.out hn0 hn1').mono ?_; rintro e w7 ⟨rfl, hk5⟩
                    have KW7 := Lib.hid (KW6.out.trans hk5)
                    have M3 := Lib.hid (M2.out.trans hk5)
                    obtain ⟨d0, d1, d2, d3⟩ := HB.out.keeps0 KW7.out
                    obtain ⟨c0, c1, c2, c3⟩ := HO4'.out.keeps0 M3.out
                    have hb5 := (HO4'.out.keeps0 M3.out).lt
                    have hb6 := (HB.out.keeps0 KW7.out).lt
                    clear hk5
                    go_wp2_with fail
                    refine (at_any _ _ _).mono ?_; rintro e wA ⟨rfl, hkA⟩
                    have HFA := Lib.hid ((HF.out.keeps0 KW7.out).keeps0 hkA)
                    obtain ⟨e0, e1, z0, z1, hFA⟩ := HFA.out.cells
                    clear hkA
                    go_wp2_with fail
                    refine bodyPost_ret (results_cell_row rfl _ _ (w.heap.size + 1) 29 _ (0, 0) _ rfl (HFA.out.set (.int .i64 5) (.int .i64 (k : Int))).1 Tryz.underlying29 rfl (by kernel_rfl)) rfl ?_
                    exact ⟨by rw [HP.out], (HFA.out.set _ _).2⟩
                  | true =>
                    cases c4_ : disjB o.add o.del with
                    | false =>
                      have HP : Hid (taskFault t = (5, (k : Int))) := by
                        unfold Hid
                        have hc : opCode o t.n = 5 := by unfold opCode; simp [c4_]
                        rw [HQ.out, HTL.out, HG.out, hc, if_neg (by decide)]
                      have C1 := Lib.hid c1_
                      have C2 := Lib.hid c2_
                      have C3 := Lib.hid c3_
                      have C4 := Lib.hid c4_
                      clear c1_ c2_ c3_ c4_
                      go_wp2_with fail
                      refine (rIsSet_b _ I1.out C1.out hn0 hn1').mono ?_; rintro e w5 ⟨rfl, hk5⟩
                      have KW5 := Lib.hid (KW4.out.trans hk5)
                      have M1 := Lib.hid (hk5)
                      obtain ⟨d0, d1, d2, d3⟩ := HB.out.keeps0 KW5.out
                      obtain ⟨c0, c1, c2, c3⟩ := HO4'.out.keeps0 M1.out
                      have hb5 := (HO4'.out.keeps0 M1.out).lt
                      have hb6 := (HB.out.keeps0 KW5.out).lt
                      clear hk5
                      go_wp2_with fail
                      refine (rIsSet_b _ (I2.out.keeps0 M1.out) C2.out hn0 hn1').mono ?_; rintro e w6 ⟨rfl, hk5⟩
                      have KW6 := Lib.hid (KW5.out.trans hk5)
                      have M2 := Lib.hid (M1.out.trans hk5)
                      obtain ⟨d0, d1, d2, d3⟩ := HB.out.keeps0 KW6.out
                      obtain ⟨c0, c1, c2, c3⟩ := HO4'.out.keeps0 M2.out
                      have hb5 := (HO4'.out.keeps0 M2.out).lt
                      have hb6 := (HB.out.keeps0 KW6.out).lt
                      clear hk5
                      go_wp2_with fail
                      refine (rIsSet_b _ (I3.out.keeps0 M2.out) C3.out hn0 hn1').mono ?_; rintro e w7 ⟨rfl, hk5⟩
                      have KW7 := Lib.hid (KW6.out.trans hk5)
                      have M3 := Lib.hid (M2.out.trans hk5)
                      obtain ⟨d0, d1, d2, d3⟩ := HB.out.keeps0 KW7.out
                      obtain ⟨c0, c1, c2, c3⟩ := HO4'.out.keeps0 M3.out
                      have hb5 := (HO4'.out.keeps0 M3.out).lt
                      have hb6 := (HB.out.keeps0 KW7.out).lt
                      clear hk5
                      go_wp2_with fail
                      refine (disjoint_b _ (I2.out.keeps0 M3.out) (I3.out.keeps0 M3.out) C4.out).mono ?_; rintro e w8 ⟨rfl, rfl⟩
                      go_wp2_with fail
                      refine (at_any _ _ _).mono ?_; rintro e wA ⟨rfl, hkA⟩
                      have HFA := Lib.hid ((HF.out.keeps0 KW7.out).keeps0 hkA)
                      obtain ⟨e0, e1, z0, z1, hFA⟩ := HFA.out.cells
                      clear hkA
                      go_wp2_with fail
                      refine bodyPost_ret (results_cell_row rfl _ _ (w.heap.size + 1) 29 _ (0, 0) _ rfl (HFA.out.set (.int .i64 5) (.int .i64 (k : Int))).1 Tryz.underlying29 rfl (by kernel_rfl)) rfl ?_
                      exact ⟨by rw [HP.out], (HFA.out.set _ _).2⟩
                    | true =>
                      have HO : Hid (opCode o t.n = if 0 ≤ o.cost ∧ o.cost ≤ 100 then 0 else 3) := by unfold Hid opCode; simp [c1_, c2_, c3_, c4_]
                      have C1 := Lib.hid c1_
                      have C2 := Lib.hid c2_
                      have C3 := Lib.hid c3_
                      have C4 := Lib.hid c4_
                      clear c1_ c2_ c3_ c4_
                      go_wp2_with fail
                      refine (rIsSet_b _ I1.out C1.out hn0 hn1').mono ?_; rintro e w5 ⟨rfl, hk5⟩
                      have KW5 := Lib.hid (KW4.out.trans hk5)
                      have M1 := Lib.hid (hk5)
                      obtain ⟨d0, d1, d2, d3⟩ := HB.out.keeps0 KW5.out
                      obtain ⟨c0, c1, c2, c3⟩ := HO4'.out.keeps0 M1.out
                      have hb5 := (HO4'.out.keeps0 M1.out).lt
                      have hb6 := (HB.out.keeps0 KW5.out).lt
                      clear hk5
                      go_wp2_with fail
                      refine (rIsSet_b _ (I2.out.keeps0 M1.out) C2.out hn0 hn1').mono ?_; rintro e w6 ⟨rfl, hk5⟩
                      have KW6 := Lib.hid (KW5.out.trans hk5)
                      have M2 := Lib.hid (M1.out.trans hk5)
                      obtain ⟨d0, d1, d2, d3⟩ := HB.out.keeps0 KW6.out
                      obtain ⟨c0, c1, c2, c3⟩ := HO4'.out.keeps0 M2.out
                      have hb5 := (HO4'.out.keeps0 M2.out).lt
                      have hb6 := (HB.out.keeps0 KW6.out).lt
                      clear hk5
                      go_wp2_with fail
                      refine (rIsSet_b _ (I3.out.keeps0 M2.out) C3.out hn0 hn1').mono ?_; rintro e w7 ⟨rfl, hk5⟩
                      have KW7 := Lib.hid (KW6.out.trans hk5)
                      have M3 := Lib.hid (M2.out.trans hk5)
                      obtain ⟨d0, d1, d2, d3⟩ := HB.out.keeps0 KW7.out
                      obtain ⟨c0, c1, c2, c3⟩ := HO4'.out.keeps0 M3.out
                      have hb5 := (HO4'.out.keeps0 M3.out).lt
                      have hb6 := (HB.out.keeps0 KW7.out).lt
                      clear hk5
                      go_wp2_with fail
                      refine (disjoint_b _ (I2.out.keeps0 M3.out) (I3.out.keeps0 M3.out) C4.out).mono ?_; rintro e w8 ⟨rfl, rfl⟩
                      by_cases hcost : 0 ≤ o.cost ∧ o.cost ≤ 100
                      · have HIN2 := Lib.hid (inB_true' hcost.1 hcost.2)
                        have HN : Hid (opsFault t.n 0 t.ops = opsFault t.n ((k + 1 : Nat) : Int) (t.ops.drop (k + 1))) := by
                          unfold Hid; rw [HTL.out, HG.out, HO.out, if_pos hcost, if_pos rfl]; rfl
                        clear hcost
                        go_wp2_with fail
                        refine (in_val _ HIN2.out).mono ?_; rintro e w9 ⟨rfl, hw9⟩
                        subst hw9
                        go_wp2_with fail
                        go_roundw
                        case rel => exact ⟨k + 1, by omega, by go_num, HN.out, KW7.out⟩
                        case measure => simp [intOf]; omega
                      · have HIN2 := Lib.hid (inB_false' hcost)
                        have HP : Hid (taskFault t = (3, (k : Int))) := by
                          unfold Hid; rw [HQ.out, HTL.out, HG.out, HO.out, if_neg hcost, if_neg (by decide)]
                        clear hcost
                        go_wp2_with fail
                        refine (in_val _ HIN2.out).mono ?_; rintro e w9 ⟨rfl, hw9⟩
                        subst hw9
                        go_wp2_with fail
                        refine (at_any _ _ _).mono ?_; rintro e wA ⟨rfl, hkA⟩
                        have HFA := Lib.hid ((HF.out.keeps0 KW7.out).keeps0 hkA)
                        obtain ⟨e0, e1, z0, z1, hFA⟩ := HFA.out.cells
                        clear hkA
                        go_wp2_with fail
                        refine bodyPost_ret (results_cell_row rfl _ _ (w.heap.size + 1) 29 _ (0, 0) _ rfl (HFA.out.set (.int .i64 3) (.int .i64 (k : Int))).1 Tryz.underlying29 rfl (by kernel_rfl)) rfl ?_
                        exact ⟨by rw [HP.out], (HFA.out.set _ _).2⟩
            · have HP : Hid (taskFault t = (0, 0)) := by unfold Hid; rw [HQ.out, HTL.out, List.drop_of_length_le (by omega)]; rfl
              have HF4 := Lib.hid (HF.out.keeps0 KW.out)
              obtain ⟨e0, e1, z0, z1, hF⟩ := HF4.out.cells
              go_wp2_with fail
              refine bodyPost_ret (results_cell_row rfl _ _ (w.heap.size + 1) 29 _ (0, 0) _ rfl (HF4.out.set (.int .i64 0) (.int .i64 0)).1 Tryz.underlying29 rfl (by kernel_rfl)) rfl ?_
              exact ⟨by rw [HP.out], (HF4.out.set _ _).2⟩

end Go.Proofs.YtjcgkmodmjckjaaGreat

namespace Go.Proofs.YtjcgkmodmjckjaaGreat
open Go.RowKit

theorem wd_small {l : List Int} {p : Nat} (h : ∀ x ∈ l, 0 ≤ x ∧ x < (p : Int)) : wd l ||| 2 ^ p = wd l + 2 ^ p := by
  have := Nat.two_pow_add_eq_or_of_lt (i := p) (b := wd l) (wd_lt h) 1
  rw [Nat.mul_one] at this
  rw [Nat.or_comm, ← this, Nat.add_comm]

theorem wrap64_small {n : Nat} (h : n < 9223372036854775808) : wrap64 (n : Int) = (n : Int) := by
  unfold wrap64
  omega

set_option maxRecDepth 100000 in
set_option maxHeartbeats 1000000 in
theorem rword_any (w : World) (v : Value) (l : List Int) (h : Ints w v l) (hl : isSetB l 32 = true) :
    Calls Tryz.prog 33 #[v] w fun e w' => e = .returned (.int .i64 (wd l : Nat)) ∧ w = w' := by
  obtain ⟨ao, ca, hv, ma⟩ := h.form
  have CA := Lib.hid (h.cell hv)
  have HL := Lib.hid hl
  subst hv
  clear h hl
  go_enter Tryz.func33, Tryz.ntmps33
  go_wp2_with fail
  go_loop [3, 4] (fun u i => ∃ k : Nat, k ≤ l.length ∧ i = .int .i64 (k : Int) ∧ u = .int .i64 (wd (l.take k) : Nat)) (fun _ i => l.length - (intOf i).toNat)
  case atStart => exact ⟨0, Nat.zero_le _, rfl, rfl⟩
  case round =>
    obtain ⟨k, hk, rfl, rfl⟩ := hrel
    by_cases hlt : k < l.length
    · obtain ⟨ba, oa, rfl, ha'⟩ := CA.out (by omega)
      obtain ⟨x, hx⟩ : ∃ x, l[k]? = some x := ⟨_, List.getElem?_eq_getElem hlt⟩
      have ha1 := ha' k _ hx
      obtain ⟨hr, hp⟩ := isSet_iff.1 HL.out
      have hb := hr x (List.mem_of_getElem? hx)
      have hsm : ∀ y ∈ l.take k, 0 ≤ y ∧ y < (x.toNat : Int) := by
        intro y hy
        have h1 := hr y (List.mem_of_mem_take hy)
        obtain ⟨j, hj⟩ := List.mem_iff_getElem?.1 hy
        rw [List.getElem?_take] at hj
        split at hj
        · rename_i hjk
          obtain ⟨l1, e1⟩ := List.getElem?_eq_some_iff.1 hj
          obtain ⟨l2, e2⟩ := List.getElem?_eq_some_iff.1 hx
          have := List.pairwise_iff_getElem.1 hp j k l1 l2 hjk
          rw [e1, e2] at this
          omega
        · cases hj
      have e2 : wd (l.take (k + 1)) = wd (l.take k) + 2 ^ x.toNat := by
        rw [← wd_small hsm, take_getS hx, wd_append, Nat.or_comm]; simp [wd]
      have hlt32 : wd (l.take (k + 1)) < 4294967296 := wd_take_lt hr (k + 1)
      have hb0 := hb.1
      have hpw : (2 : Nat) ^ x.toNat < 4294967296 := show (2 : Nat) ^ x.toNat < 2 ^ 32 from Nat.pow_lt_pow_right (by decide) (by omega)
      have hpc : ((2 : Int) ^ x.toNat) = ((2 ^ x.toNat : Nat) : Int) := by simp
      have H1 := Lib.hid e2; have H2 := Lib.hid hlt32; have H3 := Lib.hid hpw; have H4 := Lib.hid hpc
      clear ha' hx e2 hlt32 hr hp hsm hpw hpc
      go_wp2_with fail
      go_round
      case rel =>
        refine ⟨k + 1, by omega, by go_num, ?_⟩
        rw [H4.out, wrap64_small (by have := H3.out; omega), H1.out]
        congr 1
        rw [← Int.natCast_add, wrap64_small (by rw [← H1.out]; have := H2.out; omega)]
      case measure => simp [intOf]; omega
    · have hf : Hid (wd (l.take k) = wd l) := by unfold Hid; rw [List.take_of_length_le (by omega)]
      go_wp2_with fail
      go_ret
      exact ⟨congrArg (fun u : Nat => Ending.returned (Value.int .i64 (u : Int))) hf.out, rfl⟩

/-! ### Subset -/
def subB (a b : List Int) : Bool := a.all fun x => b.contains x

set_option maxHeartbeats 1000000 in
theorem subset_any (w : World) (va vb : Value) (a b : List Int) (ha : Ints w va a) (hb : Ints w vb b) :
    Calls Tryz.prog 72 #[va, vb] w fun e w' => e = .returned (.bool (subB a b)) ∧ w = w' := by
  obtain ⟨ao, ca, hv, ma⟩ := ha.form
  have CA := Lib.hid (ha.cell hv)
  have HB := Lib.hid hb
  obtain ⟨bo, cb, hvb, mb⟩ := hb.form
  subst hv hvb
  clear ha hb
  go_enter Tryz.func72, Tryz.ntmps72
  go_wp2_with fail
  go_loop [5] (fun i => ∃ k : Nat, k ≤ a.length ∧ i = .int .i64 (k : Int) ∧ subB (a.take k) b = true) (fun i => a.length - (intOf i).toNat)
  case atStart => exact ⟨0, Nat.zero_le _, rfl, rfl⟩
  case round =>
    obtain ⟨k, hk, rfl, ht⟩ := hrel
    have HT := Lib.hid ht; clear ht
    by_cases hlt : k < a.length
    · obtain ⟨ba, oa, rfl, ha'⟩ := CA.out (by omega)
      obtain ⟨x, hx⟩ : ∃ x, a[k]? = some x := ⟨_, List.getElem?_eq_getElem hlt⟩
      have ha1 := ha' k _ hx
      have HX := Lib.hid hx
      clear ha' hx
      have e2 := take_getS HX.out
      by_cases hm : x ∈ b
      · have HN : Hid (subB (a.take (k + 1)) b = true) := by
          unfold Hid
          rw [e2]
          have := HT.out
          unfold subB at this ⊢
          rw [List.all_append, this]
          simp [hm]
        have HD := Lib.hid (decide_eq_true hm)
        clear hm e2
        go_wp2_with fail
        refine (has_any _ _ _ _ HB.out).mono ?_; rintro e w1 ⟨rfl, rfl⟩
        rw [HD.out]
        go_wp2_with fail
        go_round
        case rel => exact ⟨k + 1, by omega, by go_num, HN.out⟩
        case measure => simp [intOf]; omega
      · have hf : Hid (subB a b = false) := by
          unfold Hid subB
          rw [List.all_eq_false]
          exact ⟨x, List.mem_of_getElem? HX.out, by simp [hm]⟩
        have HD := Lib.hid (decide_eq_false hm)
        clear hm e2
        go_wp2_with fail
        refine (has_any _ _ _ _ HB.out).mono ?_; rintro e w1 ⟨rfl, rfl⟩
        rw [HD.out]
        go_wp2_with fail
        go_ret
        exact ⟨congrArg (fun b => Ending.returned (Value.bool b)) hf.out.symm, rfl⟩
    · have hf : Hid (subB a b = true) := by
        have := HT.out
        rw [List.take_of_length_le (by omega)] at this
        exact this
      go_wp2_with fail
      go_ret
      exact ⟨congrArg (fun b => Ending.returned (Value.bool b)) hf.out.symm, rfl⟩

/-! ### Applies -/
set_option maxHeartbeats 1000000 in
theorem applies_any (w : World) (vi vg vo vs : Value) (t : Tsk) (s : List Int) (k : Nat) (o : Opr) (h : TaskAt w vi vg vo t) (hs : Ints w vs s) (hk : t.ops[k]? = some o) :
    Calls Tryz.prog 34 #[.agg #[.int .i64 t.n, vi, vg, vo], vs, .int .i64 (k : Int)] w fun e w' => e = .returned (.bool (appL o s)) ∧ Keeps (fun _ => False) w w' := by
  obtain ⟨ai, ci, h1, _⟩ := h.init.form
  obtain ⟨ag, cg, h2, _⟩ := h.goal.form
  obtain ⟨ao, co, h3, hmo⟩ := h.ops.form
  obtain ⟨aa, cs, h4, _⟩ := hs.form
  subst h1 h2 h3 h4
  have hlt : k < t.ops.length := (List.getElem?_eq_some_iff.1 hk).1
  have K1 := (Keeps.refl (fun _ => False) w).alloc (.cells #[.int .i64 t.n, .slice ai t.init.length ci, .slice ag t.goal.length cg, .slice ao t.ops.length co] 25)
  have HT := h.keeps0 K1
  have HSS := Lib.hid (show Ints _ (.slice aa s.length cs) s from hs.keeps0 K1)
  have HB := (Four.new w (.int .i64 t.n) (.slice ai t.init.length ci) (.slice ag t.goal.length cg) (.slice ao t.ops.length co) 25)
  obtain ⟨bo, off, rfl, hcell⟩ := HT.ops.cell rfl (by omega)
  obtain ⟨va, vb, vc, c0, c1, c2, c3, ia, ib, ic⟩ := hcell k o hk
  obtain ⟨pa, pc, hpa, _⟩ := ia.form
  have HIA := Lib.hid ia; have HK := Lib.hid K1
  clear h hs HT hcell ia ib ic c1 c2 c3 hk K1
  go_enter Tryz.func34, Tryz.ntmps34
  go_upto_region 1 with fail
  generalize (w.alloc (.cells #[.int .i64 t.n, .slice ai t.init.length ci, .slice ag t.goal.length cg, .slice (some ⟨bo, off, none⟩) t.ops.length co] 25)) = w1 at HB HSS c0 HIA HK ⊢
  obtain ⟨d0, d1, d2, d3⟩ := HB
  subst hpa
  go_wp2_with fail
  refine (subset_any _ _ _ _ _ HIA.out HSS.out).mono ?_; rintro e w2 ⟨rfl, rfl⟩
  go_wp2_with fail
  go_ret
  exact ⟨rfl, HK.out⟩

end Go.Proofs.YtjcgkmodmjckjaaGreat

/- The reference's After. -/
namespace Go.Proofs.YtjcgkmodmjckjaaGreat
open Go.RowKit

def aftP (o : Opr) (s : List Int) (x : Int) : Bool := decide (x ∈ o.add) || (decide (x ∈ s) && !decide (x ∈ o.del))
/-- The facts behind an operator, below k. -/
def aftTo (o : Opr) (s : List Int) (k : Nat) : List Int := ((List.range k).map fun p : Nat => (p : Int)).filter (aftP o s)
theorem aftTo_succ (o : Opr) (s : List Int) (k : Nat) : aftTo o s (k + 1) = if aftP o s k = true then aftTo o s k ++ [(k : Int)] else aftTo o s k := by
  unfold aftTo
  rw [List.range_succ, List.map_append, List.filter_append]
  cases h : aftP o s k <;> simp [h]
theorem aftTo_le (o : Opr) (s : List Int) (k : Nat) : (aftTo o s k).length ≤ k := by
  unfold aftTo
  refine Nat.le_trans (List.length_filter_le _ _) (by simp)
theorem aftTo_aftL {n : Int} (h0 : 0 ≤ n) (o : Opr) (s : List Int) : aftTo o s n.toNat = aftL n o s := by
  refine sorted_ext ?_ (isSet_iff.1 (isSet_aftL n o s)).2 fun x => ?_
  · unfold aftTo
    refine List.Pairwise.sublist List.filter_sublist ?_
    rw [List.pairwise_map]
    refine List.Pairwise.imp ?_ (List.pairwise_lt_range (n := n.toNat))
    intro a b h; omega
  · rw [mem_aftL]
    unfold aftTo aftP
    simp only [List.mem_filter, List.mem_map, List.mem_range, Bool.or_eq_true, Bool.and_eq_true, Bool.not_eq_true', decide_eq_true_eq, decide_eq_false_iff_not]
    constructor
    · rintro ⟨⟨p, hp, rfl⟩, h⟩; exact ⟨⟨by omega, by omega⟩, h⟩
    · rintro ⟨⟨h1, h2⟩, h⟩; exact ⟨⟨x.toNat, by omega, by omega⟩, h⟩

set_option maxRecDepth 100000 in
set_option maxHeartbeats 2000000 in
theorem after_any (w : World) (vi vg vo vs : Value) (t : Tsk) (s : List Int) (k : Nat) (o : Opr) (h : TaskAt w vi vg vo t) (hs : Ints w vs s) (hk : t.ops[k]? = some o) (hn0 : 0 ≤ t.n) (hn1 : t.n ≤ 1000) :
    Calls Tryz.prog 35 #[.agg #[.int .i64 t.n, vi, vg, vo], vs, .int .i64 (k : Int)] w fun e w' => ∃ v, e = .returned v ∧ w'.ownsRow w.heap.size 3 1 v (aftL t.n o s).length ((aftL t.n o s).map (Value.int .i64)) ∧ Keeps (fun _ => False) w w' := by
  obtain ⟨i0, hi0, hz0, hz1, hz2⟩ := info_parts Tryz.info3
  obtain ⟨ai, ci, h1, _⟩ := h.init.form
  obtain ⟨ag, cg, h2, _⟩ := h.goal.form
  obtain ⟨ao, co, h3, hmo⟩ := h.ops.form
  obtain ⟨aa, cs, h4, _⟩ := hs.form
  subst h1 h2 h3 h4
  have hlt : k < t.ops.length := (List.getElem?_eq_some_iff.1 hk).1
  have K1 := (Keeps.refl (fun _ => False) w).alloc (.cells #[.int .i64 t.n, .slice ai t.init.length ci, .slice ag t.goal.length cg, .slice ao t.ops.length co] 25)
  have HT := h.keeps0 K1
  have HSS := Lib.hid (show Ints _ (.slice aa s.length cs) s from hs.keeps0 K1)
  have HB := Lib.hid (Four.new w (.int .i64 t.n) (.slice ai t.init.length ci) (.slice ag t.goal.length cg) (.slice ao t.ops.length co) 25)
  obtain ⟨bo, off, rfl, hcell⟩ := HT.ops.cell rfl (by omega)
  obtain ⟨va, vb, vc, c0, c1, c2, c3, ia, ib, ic⟩ := hcell k o hk
  obtain ⟨pb, pcb, hpb, _⟩ := ib.form
  obtain ⟨pc, pcc, hpc, _⟩ := ic.form
  subst hpb hpc
  have HIB := Lib.hid ib; have HIC := Lib.hid ic; have HK := Lib.hid K1; have HC1 := Lib.hid c1; have HC2 := Lib.hid c2
  clear h hs HT hcell ia ib ic c0 c1 c2 c3 hk K1
  go_enter Tryz.func35, Tryz.ntmps35
  go_upto_region 1 with fail
  generalize (w.alloc (.cells #[.int .i64 t.n, .slice ai t.init.length ci, .slice ag t.goal.length cg, .slice (some ⟨bo, off, none⟩) t.ops.length co] 25)) = w1 at HB HSS HC1 HC2 HIB HIC HK ⊢
  have hbx := HB.out.lt
  go_wp2_with fail
  go_loopw [7, 8] (fun v i wr => ∃ p : Nat, (p : Int) ≤ t.n ∧ i = .int .i64 (p : Int) ∧ wr.ownsRow w1.heap.size 3 1 v (aftTo o s p).length ((aftTo o s p).map (Value.int .i64)) ∧ Keeps (fun _ => False) w1 wr) (fun _ i _ => t.n.toNat - (intOf i).toNat)
  case atStart => exact ⟨0, by omega, rfl, World.ownsRow_nil _ _ _ _, Keeps.refl _ _⟩
  case round =>
    obtain ⟨p, hp, rfl, hown, hkw⟩ := hrel
    have HO := Lib.hid hown; have KW := Lib.hid hkw
    obtain ⟨d0, d1, d2, d3⟩ := HB.out.keeps0 hkw
    have hbr := (HB.out.keeps0 hkw).lt
    have b1 := hkw.cell HC1.out (fun h => h)
    have b2 := hkw.cell HC2.out (fun h => h)
    have SB := Lib.hid (show Ints wr (.slice pb o.add.length pcb) o.add from HIB.out.keeps0 hkw)
    have SC := Lib.hid (show Ints wr (.slice pc o.del.length pcc) o.del from HIC.out.keeps0 hkw)
    have SS := Lib.hid (show Ints wr (.slice aa s.length cs) s from HSS.out.keeps0 hkw)
    clear hown hkw
    have hle := aftTo_le o s p
    have hsz := KW.out.size
    have hszw := HK.out.size
    by_cases hlp : (p : Int) < t.n
    · obtain ⟨av, cv, hv⟩ := ownsRow_form1 HO.out
      subst hv
      by_cases ha : (p : Int) ∈ o.add
      · have HA := Lib.hid (decide_eq_true ha)
        have HS : Hid (aftTo o s (p + 1) = aftTo o s p ++ [(p : Int)]) := by unfold Hid; rw [aftTo_succ, if_pos (by simp [aftP, ha])]
        clear ha
        go_wp2_with fail
        refine (has_any _ _ _ _ SB.out).mono ?_; rintro e w3 ⟨rfl, rfl⟩
        rw [HA.out]
        go_wp2_with (at_builtin; refine wpList_append_d rfl _ _ _ rfl w1.heap.size 3 i0 _ 1 8 Tryz.underlying22 hi0 hz0 hz1 hz2 rfl (by omega) _ (aftTo o s p).length ((aftTo o s p).map (Value.int .i64)) (by rfl) (World.ownsRow.alloc HO.out (.cells #[.int .i64 (p : Int)] 3)) ⟨wr.heap.size, 0, none⟩ 1 1 [.int .i64 (p : Int)] (by rfl) (by rfl) ?hnews ?hone (by omega) (by unfold maxLen; omega) (by omega) (by simp; omega) (wr.heap.size + 1) (by simp) ?_)
        case hnews => exact World.news_of_block (cs := #[.int .i64 (p : Int)]) (t := 3) (fr := (0, 0)) (heap_alloc_new _ _)
        case hone => simp [Value.oneCell']
        intro gg cap2 w4 hown hgrow hat hlt4 hd4
        have HN := Lib.hid (show w4.ownsRow w1.heap.size 3 1 (.slice (some ⟨gg, 0, none⟩) ((aftTo o s p).length + 1) cap2) (aftTo o s (p + 1)).length ((aftTo o s (p + 1)).map (Value.int .i64)) by
          rw [HS.out, List.map_append, List.length_append]; exact hown)
        have HKN := Lib.hid (own_grown HO.out KW.out ((Keeps.refl _ wr).alloc (.cells #[.int .i64 (p : Int)] 3)) hgrow)
        clear hown hgrow hat hd4
        go_wp2_with fail
        go_roundw
        case rel => exact ⟨p + 1, by omega, by go_num, HN.out, HKN.out⟩
        case measure => simp [intOf]; omega
      · have HA := Lib.hid (decide_eq_false ha)
        by_cases hs : (p : Int) ∈ s
        · have HSD := Lib.hid (decide_eq_true hs)
          by_cases hd : (p : Int) ∈ o.del
          · have HDD := Lib.hid (decide_eq_true hd)
            have HS : Hid (aftTo o s (p + 1) = aftTo o s p) := by unfold Hid; rw [aftTo_succ, if_neg (by simp [aftP, ha, hd])]
            clear ha hs hd
            go_wp2_with fail
            refine (has_any _ _ _ _ SB.out).mono ?_; rintro e w3 ⟨rfl, rfl⟩
            rw [HA.out]
            go_wp2_with fail
            refine (has_any _ _ _ _ SS.out).mono ?_; rintro e w3 ⟨rfl, rfl⟩
            rw [HSD.out]
            go_wp2_with fail
            refine (has_any _ _ _ _ SC.out).mono ?_; rintro e w3 ⟨rfl, rfl⟩
            rw [HDD.out]
            go_wp2_with fail
            go_roundw
            case rel => exact ⟨p + 1, by omega, by go_num, by rw [HS.out]; exact HO.out, KW.out⟩
            case measure => simp [intOf]; omega
          · have HDD := Lib.hid (decide_eq_false hd)
            have HS : Hid (aftTo o s (p + 1) = aftTo o s p ++ [(p : Int)]) := by unfold Hid; rw [aftTo_succ, if_pos (by simp [aftP, hs, hd])]
            clear ha hs hd
            go_wp2_with fail
            refine (has_any _ _ _ _ SB.out).mono ?_; rintro e w3 ⟨rfl, rfl⟩
            rw [HA.out]
            go_wp2_with fail
            refine (has_any _ _ _ _ SS.out).mono ?_; rintro e w3 ⟨rfl, rfl⟩
            rw [HSD.out]
            go_wp2_with fail
            refine (has_any _ _ _ _ SC.out).mono ?_; rintro e w3 ⟨rfl, rfl⟩
            rw [HDD.out]
            go_wp2_with (at_builtin; refine wpList_append_d rfl _ _ _ rfl w1.heap.size 3 i0 _ 1 8 Tryz.underlying22 hi0 hz0 hz1 hz2 rfl (by omega) _ (aftTo o s p).length ((aftTo o s p).map (Value.int .i64)) (by rfl) (World.ownsRow.alloc HO.out (.cells #[.int .i64 (p : Int)] 3)) ⟨wr.heap.size, 0, none⟩ 1 1 [.int .i64 (p : Int)] (by rfl) (by rfl) ?hnews ?hone (by omega) (by unfold maxLen; omega) (by omega) (by simp; omega) (wr.heap.size + 1) (by simp) ?_)
            case hnews => exact World.news_of_block (cs := #[.int .i64 (p : Int)]) (t := 3) (fr := (0, 0)) (heap_alloc_new _ _)
            case hone => simp [Value.oneCell']
            intro gg cap2 w4 hown hgrow hat hlt4 hd4
            have HN := Lib.hid (show w4.ownsRow w1.heap.size 3 1 (.slice (some ⟨gg, 0, none⟩) ((aftTo o s p).length + 1) cap2) (aftTo o s (p + 1)).length ((aftTo o s (p + 1)).map (Value.int .i64)) by
              rw [HS.out, List.map_append, List.length_append]; exact hown)
            have HKN := Lib.hid (own_grown HO.out KW.out ((Keeps.refl _ wr).alloc (.cells #[.int .i64 (p : Int)] 3)) hgrow)
            clear hown hgrow hat hd4
            go_wp2_with fail
            go_roundw
            case rel => exact ⟨p + 1, by omega, by go_num, HN.out, HKN.out⟩
            case measure => simp [intOf]; omega
        · have HSD := Lib.hid (decide_eq_false hs)
          have HS : Hid (aftTo o s (p + 1) = aftTo o s p) := by unfold Hid; rw [aftTo_succ, if_neg (by simp [aftP, ha, hs])]
          clear ha hs
          go_wp2_with fail
          refine (has_any _ _ _ _ SB.out).mono ?_; rintro e w3 ⟨rfl, rfl⟩
          rw [HA.out]
          go_wp2_with fail
          refine (has_any _ _ _ _ SS.out).mono ?_; rintro e w3 ⟨rfl, rfl⟩
          rw [HSD.out]
          go_wp2_with fail
          go_roundw
          case rel => exact ⟨p + 1, by omega, by go_num, by rw [HS.out]; exact HO.out, KW.out⟩
          case measure => simp [intOf]; omega
    · have hpn : p = t.n.toNat := by omega
      have HE : Hid (aftTo o s p = aftL t.n o s) := by unfold Hid; rw [hpn]; exact aftTo_aftL hn0 o s
      clear hpn
      go_wp2_with fail
      go_ret
      refine ⟨_, rfl, ?_, HK.out.trans KW.out⟩
      have := HO.out
      rw [HE.out] at this
      exact ownsRow_mono this HK.out.size

end Go.Proofs.YtjcgkmodmjckjaaGreat
