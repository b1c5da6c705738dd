/- bothends: (*side).advance. bothends: what meet has in memory while it lays the arcs of both sides. bothends: both sides in memory, apart from each other, and what one call of advance leaves of them. The queue's First: the least key, and whether there is one. bothends: both sides in memory as meet has made them. bothends: one round of meet's search: a side advances, and what meet holds between the rounds. No condition beyond what each theorem says. -/
import Derived.Test.YtcpmjoabhnfddaaGreatA5
import Derived.Test.YtcpmjoabhnfddaaGreatA4

namespace Go.Proofs.YtcpmjoabhnfddaaGreat
open Go.RowKit

/-- What one call of advance knows in its loop: the arcs in R are still to do. -/
structure AdvS (fl : Bool) (w : World) (base b m0 mp mpar md q b' bf bb bfo bbe bat x : Nat) (p T0 : Int) (M0 : Nat) (S0 : Nat → Prop) (G : Nat → List SArc) (L : List Nat) (P' : Nat → Option Int) (F0 : Nat → Prop) (wr : World)
    (P : Nat → Option Int) (par : Nat → Option SArc) (dn : Nat → Option Unit) (A : List (Int × Int)) (t : Int) (F : Nat → Prop) (found : Bool) (best : Int) (at_ : Nat) (R : List SArc) : Prop where
  side : SideM wr base b m0 mp mpar md q P par dn A t F
  inv : SideI G S0 L 409601 P par A x R
  met : MetB wr bf bb bfo bbe bat (cond fl b b') (cond fl b' b) found best at_
  mi : MeetI P P' best at_ found
  xp : P x = some p
  fF : ∀ k, F k → F0 k ∨ w.heap.size ≤ k
  t0 : 0 ≤ t
  tw : t + (weightB L 1000000000 P : Int) ≤ T0
  m : 2 * weightB L 1000000000 P + A.length < M0
  kp : Keeps (fun k => k = mp ∨ k = mpar ∨ k = md ∨ F0 k ∨ k = bfo ∨ k = bbe ∨ k = bat) w wr

theorem AdvS.keeps0 {fl : Bool} {w wr w' : World} {base b m0 mp mpar md q b' bf bb bfo bbe bat x : Nat} {p T0 : Int} {M0 : Nat} {S0 : Nat → Prop} {G : Nat → List SArc} {L : List Nat} {P' : Nat → Option Int} {F0 : Nat → Prop}
    {P : Nat → Option Int} {par : Nat → Option SArc} {dn : Nat → Option Unit} {A : List (Int × Int)} {t : Int} {F : Nat → Prop} {found : Bool} {best : Int} {at_ : Nat} {R : List SArc}
    (h : AdvS fl w base b m0 mp mpar md q b' bf bb bfo bbe bat x p T0 M0 S0 G L P' F0 wr P par dn A t F found best at_ R) (hk : Keeps (fun _ => False) wr w') : AdvS fl w base b m0 mp mpar md q b' bf bb bfo bbe bat x p T0 M0 S0 G L P' F0 w' P par dn A t F found best at_ R :=
  { h with side := h.side.keeps0 hk, met := h.met.keepsS hk (fun h => h) (fun h => h) (fun h => h) (fun h => h) (fun h => h), kp := h.kp.trans (hk.mono (fun _ _ h => h.elim)) }

set_option maxRecDepth 100000 in
set_option maxHeartbeats 4000000 in
theorem advance_any (fl : Bool) (w : World) (base gb b m0 mp mpar md q b' m0' mp' mpar' md' q' bf bb bfo bbe bat at_ x : Nat) (found : Bool) (best p t : Int) (P P' : Nat → Option Int) (par : Nat → Option SArc) (dn : Nat → Option Unit) (A : List (Int × Int)) (F FG S0 : Nat → Prop) (G : Nat → List SArc) (L : List Nat)
    (hS : SideM w base b m0 mp mpar md q P par dn A t F) (hI : SideI G S0 L 409601 P par A 0 []) (hx : U.firstMin A = some ((x : Int), p))
    (oB : SideB w b' m0' mp' mpar' md' q') (oP : FMap w mp' intV P') (lo' : ∀ y a, P' y = some a → 0 ≤ a ∧ a ≤ 1000000000000)
    (hM : MetB w bf bb bfo bbe bat (cond fl b b') (cond fl b' b) found best at_) (hMI : MeetI P P' best at_ found)
    (hG : GMap gb 173 3 m0 sarcC G FG w)
    (hF : ∀ k, F k → k ≠ b' ∧ k ≠ mp' ∧ k ≠ bf ∧ k ≠ bb ∧ k ≠ bfo ∧ k ≠ bbe ∧ k ≠ bat ∧ ¬ FG k)
    (hFG : ∀ k, FG k → k ≠ mp ∧ k ≠ mpar ∧ k ≠ md ∧ k ≠ bfo ∧ k ≠ bbe ∧ k ≠ bat ∧ k < w.heap.size)
    (ho : mp' ≠ mp ∧ mp' ≠ mpar ∧ mp' ≠ md)
    (hn : L.Nodup) (hL : L.length ≤ 2000) (hC : ∀ y, ∀ a ∈ G y, 1 ≤ a.price ∧ a.price ≤ 409601) (hGL : ∀ y, ∀ a ∈ G y, a.to ∈ L) (hGn : ∀ y, (G y).length ≤ 80000)
    (ht : 0 ≤ t ∧ t + (weightB L 1000000000 P : Int) ≤ 2000000002000) :
    Calls Tryz.prog 116 #[.pointer (some ⟨b, 0, none⟩), .func (.func 114) #[] #[.pointer (some ⟨bf, 0, none⟩), .pointer (some ⟨bb, 0, none⟩), .pointer (some ⟨bfo, 0, none⟩), .pointer (some ⟨bbe, 0, none⟩), .pointer (some ⟨bat, 0, none⟩)]] w fun e w' => e = .returned (.tuple #[]) ∧
      ∃ (P1 : Nat → Option Int) (par1 : Nat → Option SArc) (dn1 : Nat → Option Unit) (A1 : List (Int × Int)) (t1 : Int) (F1 : Nat → Prop) (found1 : Bool) (best1 : Int) (at1 : Nat),
        AdvS fl w base b m0 mp mpar md q b' bf bb bfo bbe bat x p (t + (weightB L 1000000000 P : Int)) (2 * weightB L 1000000000 P + A.length) S0 G L P' F w' P1 par1 dn1 A1 t1 F1 found1 best1 at1 [] := by
  have hmem := U.firstMin_mem hx
  obtain ⟨x', hx', hPx⟩ := hI.key _ hmem
  have hxx : x' = x := by simp only at hx'; omega
  subst hxx
  simp only at hPx
  clear hx'
  have hsb := hS.blk
  unfold SideB at hsb
  have c4 : w.cell? ⟨b, 4, none⟩ = some (.pointer (some ⟨q, 0, none⟩)) := by rw [cell_of_blk hsb]; rfl
  have ne : ∀ {i j : Nat} {a b : Array Value} {s t : TypeId}, w.heap[i]? = some (.cells a s (0, 0)) → w.heap[j]? = some (.cells b t (0, 0)) → s ≠ t → i ≠ j := fun h1 h2 hst e => by
    subst e; rw [h1] at h2; cases h2; exact hst rfl
  have ob0 := oB
  unfold SideB at ob0
  have HNE := Lib.hid (And.intro (And.intro (ne ob0 hM.fo (by decide)) (And.intro (ne ob0 hM.be (by decide)) (ne ob0 hM.at_ (by decide)))) (And.intro (And.intro (ne hsb hM.fo (by decide)) (And.intro (ne hsb hM.be (by decide)) (ne hsb hM.at_ (by decide)))) (And.intro (oP.ne_cells hM.fo) (And.intro (oP.ne_cells hM.be) (oP.ne_cells hM.at_)))))
  have HNM := Lib.hid (And.intro (hS.price.ne_cells ob0) (And.intro (hS.par_.ne_cells ob0) (hS.done.ne_cells ob0)))
  clear ne ob0
  have hb := lt_of_heap hsb
  have HP := Lib.hid (And.intro hn (And.intro hC (And.intro hGL (And.intro lo' ho))))
  have HFF := Lib.hid (And.intro hF hFG)
  have HO := Lib.hid (And.intro oB oP)
  have HG := Lib.hid hG; have HS := Lib.hid hS; have HI := Lib.hid hI; have HM := Lib.hid (And.intro hM hMI); have HX := Lib.hid hx; have HPX := Lib.hid hPx; have HME := Lib.hid hmem
  have hgn := hGn x'
  clear hn hC hGL lo' ho hF hFG oB oP hG hS hI hM hMI hx hPx hmem hsb hGn
  go_enter Tryz.func116, Tryz.ntmps116
  go_wp2_with fail
  refine (U.take_some _ _ _ _ _ HS.out.q x' p HX.out).mono ?_; rintro e w2 ⟨rfl, hq2, hk2⟩
  have h2 := HS.out.queued hk2 hq2 (fun k h => .inl h)
  obtain ⟨w3, hr3, hd3, hk3⟩ := h2.done.put (P := Tryz.prog) Tryz.underlying121 Tryz.underlying77 x' ()
  have h3 := h2.doned hk3 hd3
  have K3 := hk2.mono (S' := fun k => k = mp ∨ k = mpar ∨ k = md ∨ F k ∨ k = bfo ∨ k = bbe ∨ k = bat) (fun _ _ h => .inr (.inr (.inr (.inl h))))
  replace K3 := K3.trans (hk3.mono (fun _ _ h => .inr (.inr (.inl h))))
  have hsb2 := h2.blk
  have hsb3 := h3.blk
  unfold SideB at hsb2 hsb3
  have d3 : w2.cell? ⟨b, 3, none⟩ = some (.map (some md)) := by rw [cell_of_blk hsb2]; rfl
  have e0 : w3.cell? ⟨b, 0, none⟩ = some (.map (some m0)) := by rw [cell_of_blk hsb3]; rfl
  have hb2 := lt_of_heap hsb2
  have hb3 := lt_of_heap hsb3
  have hg3 := HG.out.keeps K3 (fun k hk h => by
    have g := HFF.out.2 k hk
    rcases h with h | h | h | h | h | h | h
    · exact g.1 h
    · exact g.2.1 h
    · exact g.2.2.1 h
    · exact (HFF.out.1 k h).2.2.2.2.2.2.2 hk
    · exact g.2.2.2.1 h
    · exact g.2.2.2.2.1 h
    · exact g.2.2.2.2.2.1 h)
  obtain ⟨va, hlk, hown, hVG⟩ := hg3.look (P := Tryz.prog) Tryz.underlying119 Tryz.underlying77 (show (zeroValue 171).run Tryz.prog w3 = .ok (.slice none 0 0) w3 by kernel_rfl) x'
  obtain ⟨ab, cb, hav⟩ := ownsRow_formN hown
  subst hav
  unfold unitV at hr3
  have hm3 : MetB w3 bf bb bfo bbe bat (cond fl b b') (cond fl b' b) found best at_ := by
    have hm2 : MetB w2 bf bb bfo bbe bat (cond fl b b') (cond fl b' b) found best at_ := HM.out.1.keepsS hk2 (fun h => (HFF.out.1 _ h).2.2.1 rfl) (fun h => (HFF.out.1 _ h).2.2.2.1 rfl) (fun h => (HFF.out.1 _ h).2.2.2.2.1 rfl) (fun h => (HFF.out.1 _ h).2.2.2.2.2.1 rfl) (fun h => (HFF.out.1 _ h).2.2.2.2.2.2.1 rfl)
    exact hm2.keepsS hk3 (fun h => h2.done.ne_cells hm2.f h.symm) (fun h => h2.done.ne_cells hm2.b h.symm) (fun h => h2.done.ne_cells hm2.fo h.symm) (fun h => h2.done.ne_cells hm2.be h.symm) (fun h => h2.done.ne_cells hm2.at_ h.symm)
  have HL := Lib.hid (show ∃ (P1 : Nat → Option Int) (par1 : Nat → Option SArc) (dn1 : Nat → Option Unit) (A1 : List (Int × Int)) (t1 : Int) (F1 : Nat → Prop) (found1 : Bool) (best1 : Int) (at1 : Nat),
      AdvS fl w base b m0 mp mpar md q b' bf bb bfo bbe bat x' p (t + (weightB L 1000000000 P : Int)) (2 * weightB L 1000000000 P + A.length) S0 G L P' F w3 P1 par1 dn1 A1 t1 F1 found1 best1 at1 ((G x').drop 0) from
    ⟨P, par, _, _, t, _, found, best, at_, h3, by rw [List.drop_zero]; exact HI.out.take HPX.out, hm3, HM.out.2, HPX.out, fun k h => .inl h.1, ht.1, Int.le_refl _, by
      have := dropA_len HME.out
      unfold dropA at this; omega, K3⟩)
  have HOW := Lib.hid hown
  have HLK := Lib.hid hlk
  have HVG := Lib.hid hVG
  have hbl0 := HM.out.1
  have HBL := Lib.hid (And.intro (lt_of_heap hbl0.f) (And.intro (lt_of_heap hbl0.b) (And.intro (lt_of_heap hbl0.fo) (And.intro (lt_of_heap hbl0.be) (lt_of_heap hbl0.at_)))))
  clear h2 h3 hq2 hk2 hd3 hk3 hsb2 hsb3 hg3 hown hm3 K3 HG HI HM HX hVG hbl0
  go_wp2_with fail
  go_loopw [33] (fun v33 wr => ∃ (i : Nat) (P1 : Nat → Option Int) (par1 : Nat → Option SArc) (dn1 : Nat → Option Unit) (A1 : List (Int × Int)) (t1 : Int) (F1 : Nat → Prop) (found1 : Bool) (best1 : Int) (at1 : Nat), i ≤ (G x').length ∧ v33 = .int .i64 (i : Int) ∧
      AdvS fl w base b m0 mp mpar md q b' bf bb bfo bbe bat x' p (t + (weightB L 1000000000 P : Int)) (2 * weightB L 1000000000 P + A.length) S0 G L P' F wr P1 par1 dn1 A1 t1 F1 found1 best1 at1 ((G x').drop i) ∧
      wr.ownsRow gb 173 3 (.slice ab (G x').length cb) (G x').length ((G x').flatMap sarcC)) (fun v33 _ => (G x').length - (intOf v33).toNat)
  case atStart =>
    obtain ⟨P1, par1, dn1, A1, t1, F1, found1, best1, at1, h⟩ := HL.out
    exact ⟨0, P1, par1, dn1, A1, t1, F1, found1, best1, at1, Nat.zero_le _, rfl, h, HOW.out⟩
  case round =>
    obtain ⟨i, P1, par1, dn1, A1, t1, F1, found1, best1, at1, hi, rfl, ha, hrow⟩ := hrel
    by_cases hlt : i < (G x').length
    · obtain ⟨a, hai⟩ : ∃ a, (G x')[i]? = some a := ⟨_, List.getElem?_eq_getElem hlt⟩
      obtain ⟨gg, cap, hv, hgl, r0, r1, r2⟩ := srow_at hrow hai
      simp only [Value.slice.injEq] at hv
      obtain ⟨rfl, -, rfl⟩ := hv
      have hca := HP.out.2.1 x' a (List.mem_of_getElem? hai)
      have haL := HP.out.2.2.1 x' a (List.mem_of_getElem? hai)
      have hlo := ha.inv.lo x' p ha.xp
      have hkn := knownB_le L P1
      have hilt : (i : Int) < ((G x').length : Int) := by omega
      have HAI := Lib.hid hai
      have HFB := Lib.hid (show ∀ k, F1 k → k ≠ wr.heap.size from fun k hk => by have := (ha.side.lF k hk).2.1; omega)
      have KA := (Keeps.refl (fun _ => False) wr).alloc (arcB a.op a.price a.to)
      have HA := Lib.hid (ha.keeps0 KA)
      have HROW := Lib.hid (KA.ownsRow hrow (fun _ _ h => h))
      have HB8 := Lib.hid (heap_alloc_new wr (arcB a.op a.price a.to))
      clear ha hrow hai KA
      go_upto_region 5 with fail
      change Code.wp _ _ _ _ (wr.alloc (arcB a.op a.price a.to))
      generalize (wr.alloc (arcB a.op a.price a.to)) = wa at HA HROW HB8 ⊢
      generalize wr.heap.size = b8 at HB8 HFB ⊢
      clear r0 r1 r2 hgl
      unfold arcB at HB8
      obtain ⟨c0, c1, c2, z0, z1, z2, hb8⟩ := tri_all HB8.out
      have hsbA := HA.out.side.blk
      unfold SideB at hsbA
      have s1 : wa.cell? ⟨b, 1, none⟩ = some (.map (some mp)) := by rw [cell_of_blk hsbA]; rfl
      have hbA := lt_of_heap hsbA
      have zi : (zeroValue 3).run Tryz.prog wa.drew = .ok (.int .i64 0) wa.drew := by kernel_rfl
      have hpa : IntKind.i64.wrap (p + a.price) = p + a.price := IntWalk.i64_in _ (by omega)
      have hdr : (wa.drew).heap = wa.heap := rfl
      by_cases hskip : ∃ old, P1 a.to = some old ∧ old ≤ p + a.price
      · obtain ⟨old, hq, hle⟩ := hskip
        have hlk5 : ∀ nd, (Instr.lookup 75 (.map (some mp)) (.int .u32 (a.to : Int)) true).run Tryz.prog (wa.drewN nd) = .ok (.tuple #[.int .i64 old, .bool true]) (wa.drewN nd) := fun nd => ((HA.out.side.price.keeps ((Keeps.refl (fun _ => False) wa).drewN nd) (fun h => h)).look_some (P := Tryz.prog) Tryz.underlying75 Tryz.underlying77 hq).1
        have hd : decide (old ≤ p + a.price) = true := by simpa using hle
        have HQ := Lib.hid (And.intro hq hle)
        clear hsbA hq hle
        go_wp2_with fail
        go_quiet (fail)
        have KD := (Keeps.refl (fun _ => False) wa).drewN nq
        have HB := Lib.hid (HA.out.keeps0 KD)
        have HRB := Lib.hid (KD.ownsRow HROW.out (fun _ _ h => h))
        have d1 := KD.cell c1 (fun h => h)
        have hb8' : b8 < (wa.drewN nq).heap.size := hb8
        clear KD HA HROW hlk5
        generalize wa.drewN nq = wb at HB HRB d1 hb8' ⊢
        go_wp2_with fail
        go_roundw
        case rel =>
          have h1 := HB.out
          rw [drop_getS HAI.out] at h1
          exact ⟨i + 1, P1, par1, dn1, A1, t1, F1, found1, best1, at1, by omega, by go_num, { h1 with inv := h1.inv.skip h1.xp HQ.out.1 HQ.out.2 }, HRB.out⟩
        case measure => simp [intOf]; omega
      · have hlow : ∀ q, P1 a.to = some q → p + a.price < q := fun q hq => by
          by_cases h : p + a.price < q
          · exact h
          · exact absurd ⟨q, hq, by omega⟩ hskip
        obtain ⟨ov, bl, hlk5, hbl⟩ : ∃ (ov : Int) (bl : Bool), (∀ nd, (Instr.lookup 75 (.map (some mp)) (.int .u32 (a.to : Int)) true).run Tryz.prog (wa.drewN nd) = .ok (.tuple #[.int .i64 ov, .bool bl]) (wa.drewN nd)) ∧ (bl = true → p + a.price < ov) := by
          cases hq : P1 a.to with
          | none => exact ⟨0, false, fun nd => ((HA.out.side.price.keeps ((Keeps.refl (fun _ => False) wa).drewN nd) (fun h => h)).look_none (P := Tryz.prog) Tryz.underlying75 Tryz.underlying77 (by kernel_rfl) hq).1, fun h => Bool.noConfusion h⟩
          | some old => exact ⟨old, true, fun nd => ((HA.out.side.price.keeps ((Keeps.refl (fun _ => False) wa).drewN nd) (fun h => h)).look_some (P := Tryz.prog) Tryz.underlying75 Tryz.underlying77 hq).1, fun _ => hlow old hq⟩
        have HLOW := Lib.hid hlow
        clear hskip hlow hsbA
        go_wp2_with fail
        go_quiet (fail)
        have KD := (Keeps.refl (fun _ => False) wa).drewN nq
        have HB := Lib.hid (HA.out.keeps0 KD)
        have HRB := Lib.hid (KD.ownsRow HROW.out (fun _ _ h => h))
        have HB8' := Lib.hid (KD.heap HB8.out (fun h => h))
        clear KD HA HROW hlk5 HB8 c0 c1 c2 z0 z1 z2 hb8 s1 hbA hdr zi
        generalize wa.drewN nq = wb at HB HRB HB8' ⊢
        obtain ⟨c0, c1, c2, z0, z1, z2, hb8⟩ := tri_all HB8'.out
        have hsbB := HB.out.side.blk
        unfold SideB at hsbB
        have s1 : wb.cell? ⟨b, 1, none⟩ = some (.map (some mp)) := by rw [cell_of_blk hsbB]; rfl
        have hbB := lt_of_heap hsbB
        obtain ⟨w7, hr7, hp7, hk7⟩ := (HB.out.side.price.keeps ((Keeps.refl (fun _ => False) wb).drew) (fun h => h)).put (P := Tryz.prog) Tryz.underlying75 Tryz.underlying77 a.to (p + a.price)
        unfold intV at hr7
        cases bl
        case' true =>
          have hd : decide (ov ≤ p + a.price) = false := by have := hbl rfl; simpa using this
          clear hsbB
          go_wp2_with fail
        case' false =>
          clear hsbB
          go_wp2_with fail
        all_goals
          go_region
          have K7 := Lib.hid (((Keeps.refl (fun j => j = mp) wb).drew).trans hk7)
          have H7 := Lib.hid (HB.out.side.priced K7.out hp7)
          have C7 := Lib.hid (K7.out.heap HB8'.out (fun h => hp7.ne_cells (hk7.heap (show wb.drew.heap[b8]? = _ from HB8'.out) (fun e => HB.out.side.price.ne_cells HB8'.out e.symm)) h.symm))
          have hsb7 := H7.out.blk
          unfold SideB at hsb7
          clear hr7 hp7 hk7 c0 c1 c2 z0 z1 z2 hb8 s1 hbB
          obtain ⟨c0, c1, c2, z0, z1, z2, hb8⟩ := tri_all C7.out
          have s2 : w7.cell? ⟨b, 2, none⟩ = some (.map (some mpar)) := by rw [cell_of_blk hsb7]; rfl
          have hbB := lt_of_heap hsb7
          obtain ⟨w8, hr8, hp8, hk8⟩ := (H7.out.par_.keeps ((Keeps.refl (fun _ => False) w7).drew) (fun h => h)).put (P := Tryz.prog) Tryz.underlying120 Tryz.underlying77 a.to ⟨a.op, a.price, x'⟩
          unfold arcV at hr8
          clear hsb7
          go_wp2_with fail
          go_region
          have K8 := Lib.hid (((Keeps.refl (fun j => j = mpar) w7).drew).trans hk8)
          have H8 := Lib.hid (H7.out.pard K8.out hp8)
          have C8 := Lib.hid (K8.out.heap C7.out (fun h => hp8.ne_cells (hk8.heap (show w7.drew.heap[b8]? = _ from C7.out) (fun e => H7.out.par_.ne_cells C7.out e.symm)) h.symm))
          have hsb8 := H8.out.blk
          unfold SideB at hsb8
          clear hr8 hp8 hk8 c0 c1 c2 z0 z1 z2 hb8 s2 hbB
          obtain ⟨c0, c1, c2, z0, z1, z2, hb8⟩ := tri_all C8.out
          have s4 : w8.cell? ⟨b, 4, none⟩ = some (.pointer (some ⟨q, 0, none⟩)) := by rw [cell_of_blk hsb8]; rfl
          have hbB := lt_of_heap hsb8
          have hA1 : A1.length ≤ 999999 := by
            obtain ⟨_, _, _, _, _, hqr⟩ := H8.out.q
            have := HB.out.inv.few hqr.ndA; omega
          have ht1 : 0 ≤ t1 ∧ t1 ≤ 1000000000000000 := by have := HB.out.t0; have := HB.out.tw; omega
          clear hsb8
          go_wp2_with fail
          go_region_held3 (fun w' => w'.cell? ⟨b, 4, none⟩ = some (.pointer (some ⟨q, 0, none⟩)) ∧ w'.cell? ⟨b8, 1, none⟩ = some (.int .i64 a.price) ∧ w'.cell? ⟨b8, 2, none⟩ = some (.int .u32 (a.to : Int))) (go_keep) ((go_at_call 94; refine (U.set_both _ _ _ _ _ (H8.out.q.keeps ((Keeps.refl (fun _ => False) w8).drew) (fun _ _ h => h)) (a.to : Int) (p + a.price) ht1 hA1).mono ?_; rintro e w9 ⟨rfl, F2, hq9, hF9, hk9⟩; have v4 := hk9.cell (show w8.drew.cell? ⟨b, 4, none⟩ = some (.pointer (some ⟨q, 0, none⟩)) from s4) (fun h => (H8.out.lF _ h).2.2.1 rfl); have v1 := hk9.cell (show w8.drew.cell? ⟨b8, 1, none⟩ = some (.int .i64 a.price) from c1) (fun h => HFB.out _ h rfl); have v2 := hk9.cell (show w8.drew.cell? ⟨b8, 2, none⟩ = some (.int .u32 (a.to : Int)) from c2) (fun h => HFB.out _ h rfl)))
          have K9 := Lib.hid (((Keeps.refl F1 w8).drew).trans hk9)
          have H9 := Lib.hid (H8.out.queued K9.out hq9 hF9)
          have C9 := Lib.hid (K9.out.heap C8.out (fun h => HFB.out _ h rfl))
          have HF2 := Lib.hid (show ∀ k, F2 k ∧ k < w9.heap.size → F k ∨ w.heap.size ≤ k from fun k hk => by
            rcases hF9 k hk.1 with h | h
            · exact HB.out.fF k h
            · have := HB.out.kp.size; have := K7.out.size; have := K8.out.size
              have h' : w8.heap.size ≤ k := h
              exact .inr (by omega))
          have nF1 : ∀ k, F1 k → k < w.heap.size → F k := fun k h hl => by
            rcases HB.out.fF k h with h | h
            · exact h
            · omega
          have KT := Lib.hid (((HB.out.kp.trans' K7.out (fun i hi => .inl (.inl hi))).trans' K8.out (fun i hi => .inl (.inr (.inl hi)))).trans' K9.out (fun i hi => by
            rcases HB.out.fF i hi with h | h
            · exact .inl (.inr (.inr (.inr (.inl h))))
            · exact .inr h))
          have HR9 := Lib.hid (K9.out.ownsRow (K8.out.ownsRow (K7.out.ownsRow HRB.out (fun k hk => (HFF.out.2 k (HVG.out k hk).1).1)) (fun k hk => (HFF.out.2 k (HVG.out k hk).1).2.1)) (fun k hk h => by
            have g := HFF.out.2 k (HVG.out k hk).1
            exact (HFF.out.1 k (nF1 k h g.2.2.2.2.2.2)).2.2.2.2.2.2.2 (HVG.out k hk).1))
          have m0 := HB.out.met
          have m7 := m0.keepsS K7.out (fun h => HB.out.side.price.ne_cells m0.f h.symm) (fun h => HB.out.side.price.ne_cells m0.b h.symm) (fun h => HB.out.side.price.ne_cells m0.fo h.symm) (fun h => HB.out.side.price.ne_cells m0.be h.symm) (fun h => HB.out.side.price.ne_cells m0.at_ h.symm)
          have m8 := m7.keepsS K8.out (fun h => H7.out.par_.ne_cells m7.f h.symm) (fun h => H7.out.par_.ne_cells m7.b h.symm) (fun h => H7.out.par_.ne_cells m7.fo h.symm) (fun h => H7.out.par_.ne_cells m7.be h.symm) (fun h => H7.out.par_.ne_cells m7.at_ h.symm)
          have m9 := m8.keepsS K9.out (fun h => (HFF.out.1 _ (nF1 _ h HBL.out.1)).2.2.1 rfl) (fun h => (HFF.out.1 _ (nF1 _ h HBL.out.2.1)).2.2.2.1 rfl) (fun h => (HFF.out.1 _ (nF1 _ h HBL.out.2.2.1)).2.2.2.2.1 rfl) (fun h => (HFF.out.1 _ (nF1 _ h HBL.out.2.2.2.1)).2.2.2.2.2.1 rfl) (fun h => (HFF.out.1 _ (nF1 _ h HBL.out.2.2.2.2)).2.2.2.2.2.2.1 rfl)
          have o9 : SideB w9 b' m0' mp' mpar' md' q' := by
            unfold SideB
            refine KT.out.heap HO.out.1 (fun h => ?_)
            rcases h with h | h | h | h | h | h | h
            · exact HNM.out.1 h.symm
            · exact HNM.out.2.1 h.symm
            · exact HNM.out.2.2 h.symm
            · exact (HFF.out.1 _ h).1 rfl
            · exact HNE.out.1.1 h
            · exact HNE.out.1.2.1 h
            · exact HNE.out.1.2.2 h
          have op9 : FMap w9 mp' intV P' := by
            refine HO.out.2.keeps KT.out (fun h => ?_)
            rcases h with h | h | h | h | h | h | h
            · exact HP.out.2.2.2.2.1 h
            · exact HP.out.2.2.2.2.2.1 h
            · exact HP.out.2.2.2.2.2.2 h
            · exact (HFF.out.1 _ h).2.1 rfl
            · exact HNE.out.2.2.1 h
            · exact HNE.out.2.2.2.1 h
            · exact HNE.out.2.2.2.2 h
          have hI9 := (by
            have h1 := HB.out.inv
            rw [drop_getS HAI.out] at h1
            exact h1.fall HP.out.1 HP.out.2.1 haL (List.mem_of_getElem? HAI.out) HB.out.xp HLOW.out : SideI G S0 L 409601 (putP P1 a.to (p + a.price)) (putP par1 a.to ⟨a.op, a.price, x'⟩) (putA A1 (a.to : Int) (p + a.price)) x' ((G x').drop (i + 1)))
          have lo9 : ∀ y c, putP P1 a.to (p + a.price) y = some c → 0 ≤ c ∧ c ≤ 1000000000000 := fun y c h => by
            have h1 := hI9.lo y c h
            have h2 := knownB_le L (putP P1 a.to (p + a.price))
            omega
          have hne : a.to ≠ x' := fun e => by
            have h1 := HLOW.out p (by rw [e]; exact HB.out.xp)
            omega
          have hxp9 : putP P1 a.to (p + a.price) x' = some p := by rw [putP_other P1 _ (fun e => hne e.symm)]; exact HB.out.xp
          have hw9 := weightB_put (m := 1000000000) (P := P1) (v := p + a.price) (by omega) haL (fun q hq => by have := HLOW.out q hq; omega)
          have hpl := putA_len A1 (a.to : Int) (p + a.price)
          have ht9 := HB.out.tw
          have ht0 := HB.out.t0
          have hm9 := HB.out.m
          have HM9 := Lib.hid m9; have HO9 := Lib.hid o9; have HP9 := Lib.hid op9; have HI9 := Lib.hid hI9; have HL9 := Lib.hid lo9; have HMI := Lib.hid HB.out.mi
          clear hq9 hF9 hk9 K9 K8 K7 C8 C7 H8 H7 HB HRB HB8' m0 m7 m8 m9 o9 op9 hI9 lo9 nF1 c0 c1 c2 z0 z1 z2 hb8 s4 hbB v4 v1 v2
          obtain ⟨c0, c1, c2, z0, z1, z2, hb8⟩ := tri_all C9.out
          go_wp2_with (go_at_call 114; refine (met_side fl w9 bf bb bfo bbe bat b b' at1 a.to found1 best1 P1 P' (p + a.price) _ mp _ _ _ _ mp' _ _ _ HM9.out H9.out.blk HO9.out H9.out.price HP9.out HMI.out HLOW.out HL9.out HP.out.2.2.2.1).mono ?_; rintro e w10 ⟨rfl, found2, best2, at2, hm10, hmi10, hk10⟩)
          have nF2 : ∀ k, F2 k ∧ k < w9.heap.size → ¬ (k = bfo ∨ k = bbe ∨ k = bat) := fun k hk h => by
            have hl : k < w.heap.size := by
              rcases h with h | h | h
              · rw [h]; exact HBL.out.2.2.1
              · rw [h]; exact HBL.out.2.2.2.1
              · rw [h]; exact HBL.out.2.2.2.2
            rcases HF2.out k hk with h1 | h1
            · have g := HFF.out.1 k h1
              rcases h with h | h | h
              · exact g.2.2.2.2.1 h
              · exact g.2.2.2.2.2.1 h
              · exact g.2.2.2.2.2.2.1 h
            · omega
          have nM : ∀ j, (∀ {cs : Array Value} {T : TypeId} {g : Nat}, w9.heap[g]? = some (.cells cs T (0, 0)) → j ≠ g) → ¬ (j = bfo ∨ j = bbe ∨ j = bat) := fun j hj h => by
            rcases h with h | h | h
            · exact hj HM9.out.fo h
            · exact hj HM9.out.be h
            · exact hj HM9.out.at_ h
          have HX := Lib.hid (H9.out.keeps hk10 (fun h => by
            rcases h with h | h | h
            · exact HNE.out.2.1.1 h
            · exact HNE.out.2.1.2.1 h
            · exact HNE.out.2.1.2.2 h) (nM _ (fun hg => H9.out.price.ne_cells hg)) (nM _ (fun hg => H9.out.par_.ne_cells hg)) (nM _ (fun hg => H9.out.done.ne_cells hg)) nF2)
          have KX := Lib.hid (KT.out.trans' hk10 (fun k hk => .inl (.inr (.inr (.inr (.inr hk))))))
          have HRX := Lib.hid (hk10.ownsRow HR9.out (fun k hk h => by
            have g := HFF.out.2 k (HVG.out k hk).1
            rcases h with h | h | h
            · exact g.2.2.2.1 h
            · exact g.2.2.2.2.1 h
            · exact g.2.2.2.2.2.1 h))
          clear nF2 nM hk10
          go_roundw
          case rel =>
            exact ⟨i + 1, _, _, dn1, _, t1 + 1, _, found2, best2, at2, by omega, by go_num,
              ⟨HX.out, HI9.out, hm10, hmi10, hxp9, HF2.out, by omega, by omega, by omega, KX.out⟩, HRX.out⟩
          case measure => simp [intOf]; omega
    · obtain rfl : i = (G x').length := by omega
      rw [List.drop_of_length_le (Nat.le_refl _)] at ha
      have HA := Lib.hid ha
      clear ha hrow
      go_wp2_with fail
      go_end0
      exact ⟨rfl, P1, par1, dn1, A1, t1, F1, found1, best1, at1, HA.out⟩

end Go.Proofs.YtcpmjoabhnfddaaGreat

namespace Go.Proofs.YtcpmjoabhnfddaaGreat
open Go.RowKit Go.Shelf

/-- The four results' variables, the two maps of rows of arcs with their variables, and the row of the goals. -/
structure MSt (w0 : World) (f g : Nat → List SArc) (gs : List Nat) (vg : Value) (FN FL : Nat → Prop) (W : World) : Prop where
  keep : Keeps (fun _ => False) w0 W
  r0 : W.heap[w0.heap.size]? = some (.cells #[.pointer none] 114 (0, 0))
  r1 : W.heap[w0.heap.size + 1]? = some (.cells #[.pointer none] 114 (0, 0))
  r2 : W.heap[w0.heap.size + 2]? = some (.cells #[.int .u32 0] 77 (0, 0))
  r3 : W.heap[w0.heap.size + 3]? = some (.cells #[.bool false] 4 (0, 0))
  x8 : Boxed W (w0.heap.size + 6) 119 (.map (some (w0.heap.size + 4)))
  x9 : Boxed W (w0.heap.size + 7) 119 (.map (some (w0.heap.size + 5)))
  next : GMap w0.heap.size 173 3 (w0.heap.size + 4) sarcC f FN W
  last : GMap w0.heap.size 173 3 (w0.heap.size + 5) sarcC g FL W
  goals : W.ownsRow w0.heap.size 77 1 vg gs.length (gs.map encW)
  lN : ∀ k, FN k → w0.heap.size + 4 ≤ k ∧ k < W.heap.size ∧ k ≠ w0.heap.size + 5 ∧ k ≠ w0.heap.size + 6 ∧ k ≠ w0.heap.size + 7
  lL : ∀ k, FL k → w0.heap.size + 4 < k ∧ k < W.heap.size ∧ k ≠ w0.heap.size + 6 ∧ k ≠ w0.heap.size + 7
  lG : ∀ k, vg.ownBlock = some k → w0.heap.size + 8 ≤ k ∧ k < W.heap.size ∧ ¬ FN k ∧ ¬ FL k
  ap : ∀ k, FN k → ¬ FL k

section
variable {w0 : World} {f g f' g' : Nat → List SArc} {gs gs' : List Nat} {vg vg' : Value} {FN FL FN' FL' S : Nat → Prop} {W W' : World}
theorem MSt.size (h : MSt w0 f g gs vg FN FL W) : w0.heap.size + 8 ≤ W.heap.size := h.x9.lt
/-- Nothing of it has changed. -/
theorem MSt.by (h : MSt w0 f g gs vg FN FL W) (hk : Keeps S W W') (hs : ∀ k, S k → w0.heap.size + 8 ≤ k ∧ ¬ FN k ∧ ¬ FL k ∧ vg.ownBlock ≠ some k) : MSt w0 f g gs vg FN FL W' := by
  have lo : ∀ k, k < w0.heap.size + 8 → ¬ S k := fun k hk h => by have := (hs k h).1; omega
  exact ⟨h.keep.trans' hk (fun i hi => .inr (by have := (hs i hi).1; omega)), hk.heap h.r0 (lo _ (by omega)), hk.heap h.r1 (lo _ (by omega)), hk.heap h.r2 (lo _ (by omega)), hk.heap h.r3 (lo _ (by omega)), hk.heap h.x8 (lo _ (by omega)), hk.heap h.x9 (lo _ (by omega)),
    h.next.keeps hk (fun k hF h => (hs k h).2.1 hF), h.last.keeps hk (fun k hF h => (hs k h).2.2.1 hF), hk.ownsRow h.goals (fun k hv h => (hs k h).2.2.2 hv),
    fun k hk' => ⟨(h.lN k hk').1, Nat.lt_of_lt_of_le (h.lN k hk').2.1 hk.size, (h.lN k hk').2.2⟩, fun k hk' => ⟨(h.lL k hk').1, Nat.lt_of_lt_of_le (h.lL k hk').2.1 hk.size, (h.lL k hk').2.2⟩,
    fun k hk' => ⟨(h.lG k hk').1, Nat.lt_of_lt_of_le (h.lG k hk').2.1 hk.size, (h.lG k hk').2.2⟩, h.ap⟩
theorem MSt.keeps0 (h : MSt w0 f g gs vg FN FL W) (hk : Keeps (fun _ => False) W W') : MSt w0 f g gs vg FN FL W' := h.by hk (fun _ h => h.elim)
/-- The rows of the arcs forth have changed. -/
theorem MSt.nexted (h : MSt w0 f g gs vg FN FL W) (hb : GMap w0.heap.size 173 3 (w0.heap.size + 4) sarcC f' FN' W') (hN : ∀ k, FN' k → FN k ∨ W.heap.size ≤ k) (hk : Keeps S W W') (hS : ∀ k, S k → FN k) : MSt w0 f' g gs vg (fun k => k < W'.heap.size ∧ FN' k) FL W' := by
  have z := h.size
  have ne : ∀ j, ¬ FN j → ¬ S j := fun j h1 h2 => h1 (hS j h2)
  have lo : ∀ j, j < w0.heap.size + 4 → ¬ FN j := fun j hj h1 => by have := (h.lN j h1).1; omega
  refine ⟨h.keep.trans' hk (fun i hi => .inr (by have := (h.lN i (hS i hi)).1; omega)), hk.heap h.r0 (ne _ (lo _ (by omega))), hk.heap h.r1 (ne _ (lo _ (by omega))), hk.heap h.r2 (ne _ (lo _ (by omega))), hk.heap h.r3 (ne _ (lo _ (by omega))),
    hk.heap h.x8 (ne _ (fun e => (h.lN _ e).2.2.2.1 rfl)), hk.heap h.x9 (ne _ (fun e => (h.lN _ e).2.2.2.2 rfl)), hb.mono (fun b h1 h2 => ⟨h1, h2⟩), h.last.keeps hk (fun k hF h2 => h.ap k (hS k h2) hF), hk.ownsRow h.goals (fun k hv h2 => (h.lG k hv).2.2.1 (hS k h2)),
    fun k hk' => ?_, fun k hk' => ⟨(h.lL k hk').1, Nat.lt_of_lt_of_le (h.lL k hk').2.1 hk.size, (h.lL k hk').2.2⟩, fun k hk' => ⟨(h.lG k hk').1, Nat.lt_of_lt_of_le (h.lG k hk').2.1 hk.size, fun e => ?_, (h.lG k hk').2.2.2⟩, fun k hk' hF => ?_⟩
  · rcases hN k hk'.2 with h1 | h1
    · exact ⟨(h.lN k h1).1, hk'.1, (h.lN k h1).2.2⟩
    · exact ⟨by omega, hk'.1, by omega, by omega, by omega⟩
  · rcases hN k e.2 with h1 | h1
    · exact (h.lG k hk').2.2.1 h1
    · have := (h.lG k hk').2.1; omega
  · rcases hN k hk'.2 with h1 | h1
    · exact h.ap k h1 hF
    · have := (h.lL k hF).2.1; omega
/-- The rows of the arcs back have changed. -/
theorem MSt.lasted (h : MSt w0 f g gs vg FN FL W) (hb : GMap w0.heap.size 173 3 (w0.heap.size + 5) sarcC g' FL' W') (hN : ∀ k, FL' k → FL k ∨ W.heap.size ≤ k) (hk : Keeps S W W') (hS : ∀ k, S k → FL k) : MSt w0 f g' gs vg FN (fun k => k < W'.heap.size ∧ FL' k) W' := by
  have z := h.size
  have ne : ∀ j, ¬ FL j → ¬ S j := fun j h1 h2 => h1 (hS j h2)
  have lo : ∀ j, j < w0.heap.size + 4 → ¬ FL j := fun j hj h1 => by have := (h.lL j h1).1; omega
  refine ⟨h.keep.trans' hk (fun i hi => .inr (by have := (h.lL i (hS i hi)).1; omega)), hk.heap h.r0 (ne _ (lo _ (by omega))), hk.heap h.r1 (ne _ (lo _ (by omega))), hk.heap h.r2 (ne _ (lo _ (by omega))), hk.heap h.r3 (ne _ (lo _ (by omega))),
    hk.heap h.x8 (ne _ (fun e => (h.lL _ e).2.2.1 rfl)), hk.heap h.x9 (ne _ (fun e => (h.lL _ e).2.2.2 rfl)), h.next.keeps hk (fun k hF h2 => h.ap k hF (hS k h2)), hb.mono (fun b h1 h2 => ⟨h1, h2⟩), hk.ownsRow h.goals (fun k hv h2 => (h.lG k hv).2.2.2 (hS k h2)),
    fun k hk' => ⟨(h.lN k hk').1, Nat.lt_of_lt_of_le (h.lN k hk').2.1 hk.size, (h.lN k hk').2.2⟩, fun k hk' => ?_, fun k hk' => ⟨(h.lG k hk').1, Nat.lt_of_lt_of_le (h.lG k hk').2.1 hk.size, (h.lG k hk').2.2.1, fun e => ?_⟩, fun k hF hk' => ?_⟩
  · rcases hN k hk'.2 with h1 | h1
    · exact ⟨(h.lL k h1).1, hk'.1, (h.lL k h1).2.2⟩
    · exact ⟨by omega, hk'.1, by omega, by omega⟩
  · rcases hN k e.2 with h1 | h1
    · exact (h.lG k hk').2.2.2 h1
    · have := (h.lG k hk').2.1; omega
  · rcases hN k hk'.2 with h1 | h1
    · exact h.ap k hF h1
    · have := (h.lN k hF).2.1; omega
/-- The row of the goals has grown. -/
theorem MSt.goaled (h : MSt w0 f g gs vg FN FL W) (hr : W'.ownsRow w0.heap.size 77 1 vg' gs'.length (gs'.map encW)) (hv : ∀ k, vg'.ownBlock = some k → vg.ownBlock = some k ∨ W.heap.size ≤ k) (hk : Keeps (fun k => vg.ownBlock = some k) W W') : MSt w0 f g gs' vg' FN FL W' := by
  have z := h.size
  have lo : ∀ j, j < w0.heap.size + 8 → vg.ownBlock ≠ some j := fun j hj h1 => by have := (h.lG j h1).1; omega
  refine ⟨h.keep.trans' hk (fun i hi => .inr (by have := (h.lG i hi).1; omega)), hk.heap h.r0 (lo _ (by omega)), hk.heap h.r1 (lo _ (by omega)), hk.heap h.r2 (lo _ (by omega)), hk.heap h.r3 (lo _ (by omega)), hk.heap h.x8 (lo _ (by omega)), hk.heap h.x9 (lo _ (by omega)),
    h.next.keeps hk (fun k hF h2 => (h.lG k h2).2.2.1 hF), h.last.keeps hk (fun k hF h2 => (h.lG k h2).2.2.2 hF), hr,
    fun k hk' => ⟨(h.lN k hk').1, Nat.lt_of_lt_of_le (h.lN k hk').2.1 hk.size, (h.lN k hk').2.2⟩, fun k hk' => ⟨(h.lL k hk').1, Nat.lt_of_lt_of_le (h.lL k hk').2.1 hk.size, (h.lL k hk').2.2⟩, fun k hk' => ?_, h.ap⟩
  have hl := (hr.lt k hk').2
  rcases hv k hk' with h1 | h1
  · exact ⟨(h.lG k h1).1, hl, (h.lG k h1).2.2⟩
  · exact ⟨by omega, hl, fun e => by have := (h.lN k e).2.1; omega, fun e => by have := (h.lL k e).2.1; omega⟩
theorem MSt.steady {row : Option Nat} {B : Nat} (h : MSt w0 f g gs vg FN FL W) (hg : W.grownBy W' row) (hr : ∀ r, row = some r → B ≤ r ∧ ∃ o : Obj, W.heap[r]? = some o ∧ o.isCells = false) (hB : w0.heap.size + 8 ≤ B) : MSt w0 f g gs vg FN FL W' := by
  have hz := (steady_keeps hg).size
  exact ⟨steady_keeps0 hg (fun r e => (hr r e).1) (by omega) h.keep, steady_heap hg (fun r e => (hr r e).2) h.r0, steady_heap hg (fun r e => (hr r e).2) h.r1, steady_heap hg (fun r e => (hr r e).2) h.r2, steady_heap hg (fun r e => (hr r e).2) h.r3, steady_heap hg (fun r e => (hr r e).2) h.x8, steady_heap hg (fun r e => (hr r e).2) h.x9,
    h.next.steady hg hr (by omega), h.last.steady hg hr (by omega), steady_row hg (fun r e => (hr r e).2) h.goals,
    fun k hk' => ⟨(h.lN k hk').1, Nat.lt_of_lt_of_le (h.lN k hk').2.1 hz, (h.lN k hk').2.2⟩, fun k hk' => ⟨(h.lL k hk').1, Nat.lt_of_lt_of_le (h.lL k hk').2.1 hz, (h.lL k hk').2.2⟩,
    fun k hk' => ⟨(h.lG k hk').1, Nat.lt_of_lt_of_le (h.lG k hk').2.1 hz, (h.lG k hk').2.2⟩, h.ap⟩
end

/-- Between the rounds of the loop over the states. -/
structure MLoop (ops : List Wop) (acc : Nat → Bool) (L : List Nat) (w0 : World) (vg : Value) (i : Nat) (ds : List Deferred) (W : World) : Prop where
  st : ∃ FN FL, MSt w0 (nextG ops (L.take i)) (lastG ops (L.take i)) ((L.take i).filter acc) vg FN FL W
  marks : Marks ds W w0.heap.size
/-- Within the loop over the steps of s, when the steps l have come. -/
def MI (w0 : World) (f g : Nat → List SArc) (gs : List Nat) (vg : Value) (s : Nat) (ds : List Deferred) (Bs b9 : Nat) (l : List Stp) (W : World) : Prop :=
  ∃ FN FL, MSt w0 (addN f s l) (addL g s l) gs vg FN FL W ∧ Marks ds W w0.heap.size ∧ W.heap[Bs]? = some (.cells #[.int .u32 (s : Int)] 77 (0, 0)) ∧ W.heap[b9]? = some (.cells #[.int .u32 (s : Int)] 77 (0, 0)) ∧ ∀ k, FN k ∨ FL k → k ≠ Bs ∧ k ≠ b9

end Go.Proofs.YtcpmjoabhnfddaaGreat

namespace Go.Proofs.YtcpmjoabhnfddaaGreat
open Go.RowKit Go.Shelf

theorem SideM.live {w : World} {base b m0 mp mpar md q : Nat} {P : Nat → Option Int} {par : Nat → Option SArc} {dn : Nat → Option Unit} {A : List (Int × Int)} {t : Int} {F : Nat → Prop} (h : SideM w base b m0 mp mpar md q P par dn A t F) :
    SideM w base b m0 mp mpar md q P par dn A t (fun k => F k ∧ k < w.heap.size ∧ w.heap[k]? ≠ some (.deferred (some []))) :=
  { h with q := h.q.live, lF := fun k hk => h.lF k hk.1 }
theorem FMap.not_deferred {α : Type} {w : World} {b : Nat} {enc : α → Value} {f : Nat → Option α} (h : FMap w b enc f) : w.heap[b]? ≠ some (.deferred (some [])) := by
  obtain ⟨es, c, hb⟩ := h.map_block
  rw [hb]; intro e; cases e

/-- What the blocks of a queue are not. -/
structure QApart (F : Nat → Prop) (W : World) (b mp mr md : Nat) (F' FG FG' : Nat → Prop) (bf bb bfo bbe bat : Nat) : Prop where
  b : ¬ F b
  mp : ¬ F mp
  mr : ¬ F mr
  md : ¬ F md
  o : ∀ k, F k → ¬ F' k
  g : ∀ k, F k → ¬ FG k
  g' : ∀ k, F k → ¬ FG' k
  bf : ¬ F bf
  bb : ¬ F bb
  bfo : ¬ F bfo
  bbe : ¬ F bbe
  bat : ¬ F bat
  nd : ∀ k, F k → W.heap[k]? ≠ some (.deferred (some []))
/-- What the blocks of the rows of arcs are not. -/
structure GApart (FG : Nat → Prop) (W : World) (mp mr md mp' mr' md' bfo bbe bat : Nat) : Prop where
  mp : ¬ FG mp
  mr : ¬ FG mr
  md : ¬ FG md
  mp' : ¬ FG mp'
  mr' : ¬ FG mr'
  md' : ¬ FG md'
  bfo : ¬ FG bfo
  bbe : ¬ FG bbe
  bat : ¬ FG bat
  lt : ∀ k, FG k → k < W.heap.size
theorem GApart.swap {FG : Nat → Prop} {W : World} {mp mr md mp' mr' md' bfo bbe bat : Nat} (h : GApart FG W mp mr md mp' mr' md' bfo bbe bat) : GApart FG W mp' mr' md' mp mr md bfo bbe bat :=
  ⟨h.mp', h.mr', h.md', h.mp, h.mr, h.md, h.bfo, h.bbe, h.bat, h.lt⟩

/-- Both sides in memory. fl: the side b is the one that goes forth. -/
structure Duo (fl : Bool) (B bf bb bfo bbe bat : Nat) (W : World) (b m0 mp mr md q : Nat) (G : Nat → List SArc) (FG : Nat → Prop) (P : Nat → Option Int) (par : Nat → Option SArc) (dn : Nat → Option Unit) (A : List (Int × Int)) (t : Int) (F : Nat → Prop)
    (b' m0' mp' mr' md' q' : Nat) (G' : Nat → List SArc) (FG' : Nat → Prop) (P' : Nat → Option Int) (par' : Nat → Option SArc) (dn' : Nat → Option Unit) (A' : List (Int × Int)) (t' : Int) (F' : Nat → Prop) (found : Bool) (best : Int) (at_ : Nat) : Prop where
  s : SideM W B b m0 mp mr md q P par dn A t F
  s' : SideM W B b' m0' mp' mr' md' q' P' par' dn' A' t' F'
  g : GMap B 173 3 m0 sarcC G FG W
  g' : GMap B 173 3 m0' sarcC G' FG' W
  met : MetB W bf bb bfo bbe bat (cond fl b b') (cond fl b' b) found best at_
  mi : MeetI P P' best at_ found
  fF : QApart F W b' mp' mr' md' F' FG FG' bf bb bfo bbe bat
  fF' : QApart F' W b mp mr md F FG' FG bf bb bfo bbe bat
  fG : GApart FG W mp mr md mp' mr' md' bfo bbe bat
  fG' : GApart FG' W mp' mr' md' mp mr md bfo bbe bat
  d : (mp' ≠ mp ∧ mp' ≠ mr ∧ mp' ≠ md) ∧ (mr' ≠ mp ∧ mr' ≠ mr ∧ mr' ≠ md) ∧ (md' ≠ mp ∧ md' ≠ mr ∧ md' ≠ md)

section
variable {fl : Bool} {B bf bb bfo bbe bat : Nat} {W W1 : World} {b m0 mp mr md q : Nat} {G : Nat → List SArc} {FG : Nat → Prop} {P : Nat → Option Int} {par : Nat → Option SArc} {dn : Nat → Option Unit} {A : List (Int × Int)} {t : Int} {F : Nat → Prop}
    {b' m0' mp' mr' md' q' : Nat} {G' : Nat → List SArc} {FG' : Nat → Prop} {P' : Nat → Option Int} {par' : Nat → Option SArc} {dn' : Nat → Option Unit} {A' : List (Int × Int)} {t' : Int} {F' : Nat → Prop} {found : Bool} {best : Int} {at_ : Nat}
theorem Duo.swap (h : Duo fl B bf bb bfo bbe bat W b m0 mp mr md q G FG P par dn A t F b' m0' mp' mr' md' q' G' FG' P' par' dn' A' t' F' found best at_) :
    Duo (!fl) B bf bb bfo bbe bat W b' m0' mp' mr' md' q' G' FG' P' par' dn' A' t' F' b m0 mp mr md q G FG P par dn A t F found best at_ :=
  ⟨h.s', h.s, h.g', h.g, by have := h.met; cases fl <;> exact this, h.mi.swap, h.fF', h.fF, h.fG', h.fG,
   ⟨h.d.1.1.symm, h.d.2.1.1.symm, h.d.2.2.1.symm⟩, ⟨h.d.1.2.1.symm, h.d.2.1.2.1.symm, h.d.2.2.2.1.symm⟩, ⟨h.d.1.2.2.symm, h.d.2.1.2.2.symm, h.d.2.2.2.2.symm⟩⟩

/-- One call of advance. -/
theorem Duo.step {x : Nat} {p T0 : Int} {M0 : Nat} {S0 : Nat → Prop} {L : List Nat} {P1 : Nat → Option Int} {par1 : Nat → Option SArc} {dn1 : Nat → Option Unit} {A1 : List (Int × Int)} {t1 : Int} {F1 : Nat → Prop} {found1 : Bool} {best1 : Int} {at1 : Nat}
    (h : Duo fl B bf bb bfo bbe bat W b m0 mp mr md q G FG P par dn A t F b' m0' mp' mr' md' q' G' FG' P' par' dn' A' t' F' found best at_)
    (ha : AdvS fl W B b m0 mp mr md q b' bf bb bfo bbe bat x p T0 M0 S0 G L P' F W1 P1 par1 dn1 A1 t1 F1 found1 best1 at1 []) :
    KeepsD W W1 ∧ (∀ k, k < B → ¬ (k = mp ∨ k = mr ∨ k = md ∨ F k)) ∧
    Duo fl B bf bb bfo bbe bat W1 b m0 mp mr md q G FG P1 par1 dn1 A1 t1 (fun k => F1 k ∧ k < W1.heap.size ∧ W1.heap[k]? ≠ some (.deferred (some []))) b' m0' mp' mr' md' q' G' FG' P' par' dn' A' t' F' found1 best1 at1 := by
  have ne : ∀ {i j : Nat} {a b : Array Value} {s t : TypeId}, W.heap[i]? = some (.cells a s (0, 0)) → W.heap[j]? = some (.cells b t (0, 0)) → s ≠ t → i ≠ j := fun h1 h2 hst e => by
    subst e; rw [h1] at h2; cases h2; exact hst rfl
  have hb := h.s.blk
  have hb' := h.s'.blk
  unfold SideB at hb hb'
  have hz := ha.kp.size
  have cell : ∀ j, (∃ (cs : Array Value) (T : TypeId), W.heap[j]? = some (.cells cs T (0, 0))) → ¬ (j = mp ∨ j = mr ∨ j = md) := fun j hj h1 => by
    obtain ⟨cs, T, hj⟩ := hj
    rcases h1 with h1 | h1 | h1
    · exact h.s.price.ne_cells hj h1.symm
    · exact h.s.par_.ne_cells hj h1.symm
    · exact h.s.done.ne_cells hj h1.symm
  have boxes : ∀ j, (∀ {cs : Array Value} {T : TypeId} {g : Nat}, W.heap[g]? = some (.cells cs T (0, 0)) → j ≠ g) → ¬ (j = bfo ∨ j = bbe ∨ j = bat) := fun j hj h1 => by
    rcases h1 with h1 | h1 | h1
    · exact hj h.met.fo h1
    · exact hj h.met.be h1
    · exact hj h.met.at_ h1
  have all : ∀ j, ¬ (j = mp ∨ j = mr ∨ j = md) → ¬ F j → ¬ (j = bfo ∨ j = bbe ∨ j = bat) → ¬ (j = mp ∨ j = mr ∨ j = md ∨ F j ∨ j = bfo ∨ j = bbe ∨ j = bat) := fun j h1 h2 h3 h4 => by
    rcases h4 with h4 | h4 | h4 | h4 | h4
    · exact h1 (.inl h4)
    · exact h1 (.inr (.inl h4))
    · exact h1 (.inr (.inr h4))
    · exact h2 h4
    · exact h3 h4
  have sb' : ¬ (b' = mp ∨ b' = mr ∨ b' = md ∨ F b' ∨ b' = bfo ∨ b' = bbe ∨ b' = bat) := all _ (cell _ ⟨_, _, hb'⟩) h.fF.b (fun h1 => by
    rcases h1 with h1 | h1 | h1
    · exact ne hb' h.met.fo (by decide) h1
    · exact ne hb' h.met.be (by decide) h1
    · exact ne hb' h.met.at_ (by decide) h1)
  have m3 : ∀ {j : Nat}, j ≠ mp ∧ j ≠ mr ∧ j ≠ md → ¬ (j = mp ∨ j = mr ∨ j = md) := fun hj h1 => by
    rcases h1 with h1 | h1 | h1
    · exact hj.1 h1
    · exact hj.2.1 h1
    · exact hj.2.2 h1
  have sG : ∀ {FH : Nat → Prop}, (∀ k, F k → ¬ FH k) → ¬ FH mp → ¬ FH mr → ¬ FH md → ¬ FH bfo → ¬ FH bbe → ¬ FH bat → ∀ k, FH k → ¬ (k = mp ∨ k = mr ∨ k = md ∨ F k ∨ k = bfo ∨ k = bbe ∨ k = bat) := fun h0 h1 h2 h3 h4 h5 h6 k hk hs => by
    rcases hs with e | e | e | e | e | e | e
    · exact h1 (e ▸ hk)
    · exact h2 (e ▸ hk)
    · exact h3 (e ▸ hk)
    · exact h0 k e hk
    · exact h4 (e ▸ hk)
    · exact h5 (e ▸ hk)
    · exact h6 (e ▸ hk)
  have sF' : ∀ k, F' k → ¬ (k = mp ∨ k = mr ∨ k = md ∨ F k ∨ k = bfo ∨ k = bbe ∨ k = bat) := sG (fun k h1 h2 => h.fF.o k h1 h2) h.fF'.mp h.fF'.mr h.fF'.md h.fF'.bfo h.fF'.bbe h.fF'.bat
  have hs' := h.s'.keeps ha.kp sb' (all _ (m3 h.d.1) h.fF.mp (boxes _ (fun hg => h.s'.price.ne_cells hg))) (all _ (m3 h.d.2.1) h.fF.mr (boxes _ (fun hg => h.s'.par_.ne_cells hg))) (all _ (m3 h.d.2.2) h.fF.md (boxes _ (fun hg => h.s'.done.ne_cells hg))) sF'
  have hg := h.g.keeps ha.kp (sG h.fF.g h.fG.mp h.fG.mr h.fG.md h.fG.bfo h.fG.bbe h.fG.bat)
  have hg' := h.g'.keeps ha.kp (sG h.fF.g' h.fG'.mp' h.fG'.mr' h.fG'.md' h.fG'.bfo h.fG'.bbe h.fG'.bat)
  have low : ∀ {j : Nat}, j < W.heap.size → ¬ F j → ¬ (F1 j ∧ j < W1.heap.size ∧ W1.heap[j]? ≠ some (.deferred (some []))) := fun hj hn h1 => by
    rcases ha.fF _ h1.1 with h2 | h2
    · exact hn h2
    · omega
  have lowS : ∀ {FH : Nat → Prop}, (∀ k, F k → ¬ FH k) → (∀ k, FH k → k < W.heap.size) → ∀ k, (F1 k ∧ k < W1.heap.size ∧ W1.heap[k]? ≠ some (.deferred (some []))) → ¬ FH k := fun h0 h1 k hk hf => low (h1 k hf) (fun hF => h0 k hF hf) hk
  refine ⟨KeepsD.of ha.kp (fun k hk => ?_), fun k hk hs => ?_, ?_⟩
  · rcases hk with e | e | e | e | e | e | e
    · rw [e]; exact h.s.price.not_deferred
    · rw [e]; exact h.s.par_.not_deferred
    · rw [e]; exact h.s.done.not_deferred
    · exact h.fF.nd k e
    · rw [e]; exact cells_not_deferred h.met.fo
    · rw [e]; exact cells_not_deferred h.met.be
    · rw [e]; exact cells_not_deferred h.met.at_
  · rcases hs with e | e | e | e
    · have := h.s.lp; omega
    · have := h.s.lr; omega
    · have := h.s.ld; omega
    · have := (h.s.lF k e).1; omega
  · exact ⟨ha.side.live, hs', hg, hg', ha.met, ha.mi,
      ⟨low (lt_of_heap hb') h.fF.b, low h.s'.price.lt h.fF.mp, low h.s'.par_.lt h.fF.mr, low h.s'.done.lt h.fF.md, lowS h.fF.o (fun k hk => (h.s'.lF k hk).2.1), lowS h.fF.g h.fG.lt, lowS h.fF.g' h.fG'.lt,
       low (lt_of_heap h.met.f) h.fF.bf, low (lt_of_heap h.met.b) h.fF.bb, low (lt_of_heap h.met.fo) h.fF.bfo, low (lt_of_heap h.met.be) h.fF.bbe, low (lt_of_heap h.met.at_) h.fF.bat, fun k hk => hk.2.2⟩,
      ⟨h.fF'.b, h.fF'.mp, h.fF'.mr, h.fF'.md, fun k hk h1 => lowS h.fF.o (fun k hk => (h.s'.lF k hk).2.1) k h1 hk, h.fF'.g, h.fF'.g', h.fF'.bf, h.fF'.bb, h.fF'.bfo, h.fF'.bbe, h.fF'.bat, fun k hk => Keeps.nd ha.kp (h.s'.lF k hk).2.1 (sF' k hk) (h.fF'.nd k hk)⟩,
      ⟨h.fG.mp, h.fG.mr, h.fG.md, h.fG.mp', h.fG.mr', h.fG.md', h.fG.bfo, h.fG.bbe, h.fG.bat, fun k hk => Nat.lt_of_lt_of_le (h.fG.lt k hk) hz⟩,
      ⟨h.fG'.mp, h.fG'.mr, h.fG'.md, h.fG'.mp', h.fG'.mr', h.fG'.md', h.fG'.bfo, h.fG'.bbe, h.fG'.bat, fun k hk => Nat.lt_of_lt_of_le (h.fG'.lt k hk) hz⟩, h.d⟩

/-- What advance asks. -/
theorem Duo.asks (h : Duo fl B bf bb bfo bbe bat W b m0 mp mr md q G FG P par dn A t F b' m0' mp' mr' md' q' G' FG' P' par' dn' A' t' F' found best at_) :
    (∀ k, F k → k ≠ b' ∧ k ≠ mp' ∧ k ≠ bf ∧ k ≠ bb ∧ k ≠ bfo ∧ k ≠ bbe ∧ k ≠ bat ∧ ¬ FG k) ∧ (∀ k, FG k → k ≠ mp ∧ k ≠ mr ∧ k ≠ md ∧ k ≠ bfo ∧ k ≠ bbe ∧ k ≠ bat ∧ k < W.heap.size) :=
  ⟨fun k hk => ⟨fun e => h.fF.b (e ▸ hk), fun e => h.fF.mp (e ▸ hk), fun e => h.fF.bf (e ▸ hk), fun e => h.fF.bb (e ▸ hk), fun e => h.fF.bfo (e ▸ hk), fun e => h.fF.bbe (e ▸ hk), fun e => h.fF.bat (e ▸ hk), h.fF.g k hk⟩,
   fun k hk => ⟨fun e => h.fG.mp (e ▸ hk), fun e => h.fG.mr (e ▸ hk), fun e => h.fG.md (e ▸ hk), fun e => h.fG.bfo (e ▸ hk), fun e => h.fG.bbe (e ▸ hk), fun e => h.fG.bat (e ▸ hk), h.fG.lt k hk⟩⟩
/-- A draw, or a block more. -/
theorem Duo.keeps0 (h : Duo fl B bf bb bfo bbe bat W b m0 mp mr md q G FG P par dn A t F b' m0' mp' mr' md' q' G' FG' P' par' dn' A' t' F' found best at_) (hk : Keeps (fun _ => False) W W1) :
    Duo fl B bf bb bfo bbe bat W1 b m0 mp mr md q G FG P par dn A t F b' m0' mp' mr' md' q' G' FG' P' par' dn' A' t' F' found best at_ :=
  { h with s := h.s.keeps0 hk, s' := h.s'.keeps0 hk, g := h.g.keeps hk (fun _ _ h => h), g' := h.g'.keeps hk (fun _ _ h => h), met := h.met.keepsS hk (fun h => h) (fun h => h) (fun h => h) (fun h => h) (fun h => h), fF := { h.fF with nd := fun k hF => Keeps.nd hk (h.s.lF k hF).2.1 (fun h => h) (h.fF.nd k hF) }, fF' := { h.fF' with nd := fun k hF => Keeps.nd hk (h.s'.lF k hF).2.1 (fun h => h) (h.fF'.nd k hF) }, fG := { h.fG with lt := fun k hk' => Nat.lt_of_lt_of_le (h.fG.lt k hk') hk.size }, fG' := { h.fG' with lt := fun k hk' => Nat.lt_of_lt_of_le (h.fG'.lt k hk') hk.size } }
end

end Go.Proofs.YtcpmjoabhnfddaaGreat

namespace Go.Proofs.YtcpmjoabhnfddaaGreat.U
open Go.RowKit

theorem firstMin_least {A : List (Int × Int)} : ∀ {p : Int × Int}, firstMin A = some p → ∀ a ∈ A, p.2 ≤ a.2 := by
  induction A with
  | nil => intro p h; cases h
  | cons q r ih =>
    intro p h a ha
    simp only [firstMin] at h
    split at h
    · rename_i hr
      simp at h; subst h
      rw [firstMin_none.1 hr] at ha
      simp at ha; subst ha; exact Int.le_refl _
    · rename_i q' hq'
      have hi := ih hq'
      split at h
      · simp at h; subst h
        rcases List.mem_cons.1 ha with rfl | h2
        · omega
        · exact hi a h2
      · simp at h; subst h
        rcases List.mem_cons.1 ha with rfl | h2
        · exact Int.le_refl _
        · have := hi a h2; omega

theorem first_none (w : World) (Q : Nat) (t : Int) (F : Nat → Prop) (h : QRep w Q [] t F) :
    Calls Tryz.prog 115 #[.pointer (some ⟨Q, 0, none⟩)] w fun e w' => e = .returned (.tuple #[.int .i64 0, .bool false]) ∧ w = w' := by
  obtain ⟨v, Mb, l, L, E, h⟩ := h
  have hl := h.len
  simp at hl
  subst hl
  obtain ⟨ao, cap, rfl⟩ := h.rep.isSlice
  have c0 := h.q.c0
  simp only [List.length_nil] at c0
  clear h
  go_enter Tryz.func115, Tryz.ntmps115
  go_wp2
  go_ret2
  exact ⟨rfl, rfl⟩

set_option maxRecDepth 100000 in
set_option maxHeartbeats 1000000 in
theorem first_some (w : World) (Q : Nat) (A : List (Int × Int)) (t : Int) (F : Nat → Prop) (h : QRep w Q A t F) (x k : Int) (hx : firstMin A = some (x, k)) :
    Calls Tryz.prog 115 #[.pointer (some ⟨Q, 0, none⟩)] w fun e w' => e = .returned (.tuple #[.int .i64 k, .bool true]) ∧ w = w' := by
  obtain ⟨v, Mb, l, L, E, h⟩ := h
  have hA : A ≠ [] := fun e => by rw [e] at hx; simp [firstMin] at hx
  have hl := h.len
  have hpos : 0 < A.length := List.length_pos_iff.2 hA
  obtain ⟨n, hn⟩ : ∃ n, L.length = n + 1 := ⟨L.length - 1, by omega⟩
  have hH := h.heap
  rw [hn] at hH
  have hmin := heap_min hH
  have h0 : at' L 0 ∈ L := at_mem (by omega)
  have hfm := firstMin_of h.ord (h.perm.mem_iff.1 h0) (fun e he => by
    obtain ⟨j, hj⟩ := List.mem_iff_getElem?.1 (h.perm.mem_iff.2 he)
    have lj : j < L.length := (List.getElem?_eq_some_iff.1 hj).1
    rw [← at_eq hj]
    exact hmin j (by omega))
  rw [h.view, hx] at hfm
  have h1 : L[0]? = some (at' L 0) := by
    obtain ⟨e, he⟩ : ∃ e, L[0]? = some e := ⟨_, List.getElem?_eq_getElem (by omega)⟩
    rw [← at_eq he] at he ⊢; exact he
  generalize at' L 0 = e0 at *
  simp only [Option.some.injEq, Prod.mk.injEq] at hfm
  obtain ⟨rfl, rfl⟩ := hfm
  obtain ⟨g, cap, cur, hv, hg, hcs, hnc, hcell⟩ := h.rep.form (by omega)
  have hp0 := hcell 0 e0 h1
  have hent := h.rep.ent 0 e0 h1
  subst hv
  rw [hn] at h
  have c0 := h.q.c0
  have hz : (((n + 1 : Nat) : Int) == 0) = false := by simp; omega
  have d1 : w.cell? ⟨e0.blk, 1, none⟩ = some (.int .i64 e0.key) := by rw [cell_of_blk hent]; rfl
  have g0 : w.cell? ⟨g, 0, none⟩ = some (.pointer (some ⟨e0.blk, 0, none⟩)) := by rw [cell_of_blk hg]; exact hp0
  have hlt : ((0 : Int)) < ((n + 1 : Nat) : Int) := by omega
  clear h hmin h0 h1 hx hg hcs hnc hcell hp0 hent hH hl hn hA hpos
  go_enter Tryz.func115, Tryz.ntmps115
  go_wp2_with fail
  go_ret2
  exact ⟨rfl, rfl⟩

end Go.Proofs.YtcpmjoabhnfddaaGreat.U

namespace Go.Proofs.YtcpmjoabhnfddaaGreat
open Go.RowKit Go.Shelf

theorem SideM.low {w : World} {base base' b m0 mp mpar md q : Nat} {P : Nat → Option Int} {par : Nat → Option SArc} {dn : Nat → Option Unit} {A : List (Int × Int)} {t : Int} {F : Nat → Prop} (h : SideM w base b m0 mp mpar md q P par dn A t F) (hb : base' ≤ base) : SideM w base' b m0 mp mpar md q P par dn A t F :=
  { h with lF := fun k hk => ⟨Nat.le_trans hb (h.lF k hk).1, (h.lF k hk).2⟩, lb := Nat.le_trans hb h.lb, lp := Nat.le_trans hb h.lp, lr := Nat.le_trans hb h.lr, ld := Nat.le_trans hb h.ld }

theorem duo_start {w wo wA wB W : World} {f g : Nat → List SArc} {gs : List Nat} {vg : Value} {FN FL F F' : Nat → Prop} {baseA sf pf rf df qf sb pb rb db qb b15 at_ : Nat} {P P' : Nat → Option Int} {par par' : Nat → Option SArc} {dn dn' : Nat → Option Unit} {A A' : List (Int × Int)} {t t' : Int} {found : Bool} {best : Int}
    (h : MSt w f g gs vg FN FL wo) (kA : Keeps (fun _ => False) wo wA) (hz : wo.heap.size ≤ baseA) (hA : SideM wA baseA sf (w.heap.size + 4) pf rf df qf P par dn A t F) (kB : Keeps (fun _ => False) wA wB) (hB : SideM wB wA.heap.size sb (w.heap.size + 5) pb rb db qb P' par' dn' A' t' F')
    (k : Keeps (fun j => w.heap.size ≤ j ∧ j < w.heap.size + 4) wB W) (hm : MetB W w.heap.size (w.heap.size + 1) (w.heap.size + 3) b15 (w.heap.size + 2) sf sb found best at_) (h15 : wB.heap.size ≤ b15) (mi : MeetI P P' best at_ found) :
    Duo true w.heap.size w.heap.size (w.heap.size + 1) (w.heap.size + 3) b15 (w.heap.size + 2) W sf (w.heap.size + 4) pf rf df qf f FN P par dn A t (fun j => F j ∧ j < W.heap.size ∧ W.heap[j]? ≠ some (.deferred (some [])))
      sb (w.heap.size + 5) pb rb db qb g FL P' par' dn' A' t' (fun j => F' j ∧ j < W.heap.size ∧ W.heap[j]? ≠ some (.deferred (some []))) found best at_ := by
  have zo := h.size
  have zA := kA.size
  have zB := kB.size
  have zW := k.size
  have no : ∀ j, w.heap.size + 4 ≤ j → ¬ (w.heap.size ≤ j ∧ j < w.heap.size + 4) := fun j hj h => by omega
  have a1 := hA.lb; have a2 := hA.lp; have a3 := hA.lr; have a4 := hA.ld
  have b1 := hB.lb; have b2 := hB.lp; have b3 := hB.lr; have b4 := hB.ld
  have c1 := lt_of_heap hA.blk; have c2 := hA.price.lt; have c3 := hA.par_.lt; have c4 := hA.done.lt
  have d1 := lt_of_heap hB.blk; have d2 := hB.price.lt; have d3 := hB.par_.lt; have d4 := hB.done.lt
  have sA := (((hA.keeps0 kB).keeps k (no _ (by omega)) (no _ (by omega)) (no _ (by omega)) (no _ (by omega)) (fun j hj => no _ (by have := (hA.lF j hj).1; omega))).low (base' := w.heap.size) (by omega)).live
  have sB := ((hB.keeps k (no _ (by omega)) (no _ (by omega)) (no _ (by omega)) (no _ (by omega)) (fun j hj => no _ (by have := (hB.lF j hj).1; omega))).low (base' := w.heap.size) (by omega)).live
  have kAB := kA.trans kB
  have eF : ∀ j, F j → wo.heap.size ≤ j ∧ j < wA.heap.size := fun j hj => ⟨Nat.le_trans hz (hA.lF j hj).1, (hA.lF j hj).2.1⟩
  have eF' : ∀ j, F' j → wA.heap.size ≤ j ∧ j < wB.heap.size := fun j hj => ⟨(hB.lF j hj).1, (hB.lF j hj).2.1⟩
  have eN : ∀ j, FN j → w.heap.size + 4 ≤ j ∧ j < wo.heap.size := fun j hj => ⟨(h.lN j hj).1, (h.lN j hj).2.1⟩
  have eL : ∀ j, FL j → w.heap.size + 4 ≤ j ∧ j < wo.heap.size := fun j hj => ⟨by have := (h.lL j hj).1; omega, (h.lL j hj).2.1⟩
  have nA : ∀ {j}, (j < wo.heap.size ∨ wA.heap.size ≤ j) → ¬ (F j ∧ j < W.heap.size ∧ W.heap[j]? ≠ some (.deferred (some []))) := fun hj h => by have := eF _ h.1; omega
  have nB : ∀ {j}, (j < wA.heap.size ∨ wB.heap.size ≤ j) → ¬ (F' j ∧ j < W.heap.size ∧ W.heap[j]? ≠ some (.deferred (some []))) := fun hj h => by have := eF' _ h.1; omega
  have nN : ∀ {j}, (j < w.heap.size + 4 ∨ wo.heap.size ≤ j) → ¬ FN j := fun hj h => by have := eN _ h; omega
  have nL : ∀ {j}, (j < w.heap.size + 4 ∨ wo.heap.size ≤ j) → ¬ FL j := fun hj h => by have := eL _ h; omega
  exact ⟨sA, sB, (h.next.keeps kAB (fun _ _ h => h)).keeps k (fun j hj => no _ (eN j hj).1), (h.last.keeps kAB (fun _ _ h => h)).keeps k (fun j hj => no _ (eL j hj).1), hm, mi,
    ⟨nA (.inr (by omega)), nA (.inr (by omega)), nA (.inr (by omega)), nA (.inr (by omega)), fun j hj hj' => by have := eF j hj.1; have := eF' j hj'.1; omega, fun j hj hj' => by have := eF j hj.1; have := eN j hj'; omega, fun j hj hj' => by have := eF j hj.1; have := eL j hj'; omega,
     nA (.inl (by omega)), nA (.inl (by omega)), nA (.inl (by omega)), nA (.inr (by omega)), nA (.inl (by omega)), fun j hj => hj.2.2⟩,
    ⟨nB (.inl (by omega)), nB (.inl (by omega)), nB (.inl (by omega)), nB (.inl (by omega)), fun j hj hj' => by have := eF' j hj.1; have := eF j hj'.1; omega, fun j hj hj' => by have := eF' j hj.1; have := eL j hj'; omega, fun j hj hj' => by have := eF' j hj.1; have := eN j hj'; omega,
     nB (.inl (by omega)), nB (.inl (by omega)), nB (.inl (by omega)), nB (.inr (by omega)), nB (.inl (by omega)), fun j hj => hj.2.2⟩,
    ⟨nN (.inr (by omega)), nN (.inr (by omega)), nN (.inr (by omega)), nN (.inr (by omega)), nN (.inr (by omega)), nN (.inr (by omega)), nN (.inl (by omega)), nN (.inr (by omega)), nN (.inl (by omega)), fun j hj => by have := eN j hj; omega⟩,
    ⟨nL (.inr (by omega)), nL (.inr (by omega)), nL (.inr (by omega)), nL (.inr (by omega)), nL (.inr (by omega)), nL (.inr (by omega)), nL (.inl (by omega)), nL (.inr (by omega)), nL (.inl (by omega)), fun j hj => by have := eL j hj; omega⟩,
    ⟨by omega, by omega, by omega⟩, ⟨by omega, by omega, by omega⟩, ⟨by omega, by omega, by omega⟩⟩

/-- What is met at the start. -/
theorem metStart (st : Nat) (gs : List Nat) : (∃ (found : Bool) (best : Int) (at_ : Nat), metF (startP [st] st) (startP gs st) st false 0 0 = (found, best, at_) ∧ MeetI (startP [st]) (startP gs) best at_ found) := by
  have e1 : startP [st] st = some 0 := by unfold startP; simp
  by_cases h : st ∈ gs
  · have e2 : startP gs st = some 0 := by unfold startP; rw [if_pos h]
    exact ⟨true, 0, st, by rw [e1, e2]; unfold metF; simp, MeetI.initMet h⟩
  · have e2 : startP gs st = none := by unfold startP; rw [if_neg h]
    exact ⟨false, 0, 0, by rw [e1, e2]; rfl, MeetI.init h⟩
theorem startP_lo (gs : List Nat) : ∀ y a, startP gs y = some a → 0 ≤ a ∧ a ≤ 1000000000000 := fun y a h => by
  unfold startP at h
  split at h
  · cases h; omega
  · cases h

theorem startW (L gs : List Nat) (m : Nat) : weightB L m (startP gs) ≤ L.length * m := by
  unfold weightB
  induction L with
  | nil => simp
  | cons x r ih =>
    rw [List.map_cons, List.sum_cons, List.length_cons, Nat.add_mul, Nat.one_mul, Nat.add_comm]
    refine Nat.add_le_add ih ?_
    unfold startP
    by_cases h : x ∈ gs
    · rw [if_pos h]; exact Nat.zero_le _
    · rw [if_neg h]; exact Nat.le_refl _
theorem U.first_any (w : World) (Q : Nat) (A : List (Int × Int)) (t : Int) (F : Nat → Prop) (h : U.QRep w Q A t F) : ∃ (a : Int) (s : Bool),
    (Calls Tryz.prog 115 #[.pointer (some ⟨Q, 0, none⟩)] w fun e w' => e = .returned (.tuple #[.int .i64 a, .bool s]) ∧ w = w') ∧ ((s = false ∧ A = []) ∨ (s = true ∧ ∃ x, U.firstMin A = some (x, a))) := by
  by_cases hA : A = []
  · subst hA
    exact ⟨0, false, U.first_none w Q t F h, .inl ⟨rfl, rfl⟩⟩
  · cases hf : U.firstMin A with
    | none => exact absurd (U.firstMin_none.1 hf) hA
    | some p => exact ⟨p.2, true, U.first_some w Q A t F h p.1 p.2 hf, .inr ⟨rfl, p.1, rfl⟩⟩

end Go.Proofs.YtcpmjoabhnfddaaGreat

namespace Go.Proofs.YtcpmjoabhnfddaaGreat
open Go.RowKit Go.Shelf

theorem SideI.cap {G : Nat → List SArc} {S0 : Nat → Prop} {L : List Nat} {P : Nat → Option Int} {par : Nat → Option SArc} {A : List (Int × Int)} {s : Nat} {R : List SArc} (h : SideI G S0 L 409601 P par A s R) (hL : L.length ≤ 2000) : ∀ y a, P y = some a → 0 ≤ a ∧ a ≤ 1000000000 := fun y a hy => by
  have h1 := h.lo y a hy
  have h2 := knownB_le L P
  omega
theorem SideI.cap12 {G : Nat → List SArc} {S0 : Nat → Prop} {L : List Nat} {P : Nat → Option Int} {par : Nat → Option SArc} {A : List (Int × Int)} {s : Nat} {R : List SArc} (h : SideI G S0 L 409601 P par A s R) (hL : L.length ≤ 2000) : ∀ y a, P y = some a → 0 ≤ a ∧ a ≤ 1000000000000 := fun y a hy => by
  have h1 := h.cap hL y a hy
  omega
theorem SideI.firstCap {G : Nat → List SArc} {S0 : Nat → Prop} {L : List Nat} {P : Nat → Option Int} {par : Nat → Option SArc} {A : List (Int × Int)} {s : Nat} {R : List SArc} (h : SideI G S0 L 409601 P par A s R) (hL : L.length ≤ 2000) {x p : Int} (hx : U.firstMin A = some (x, p)) : ∃ x0 : Nat, x = (x0 : Int) ∧ 0 ≤ p ∧ p ≤ 1000000000 := by
  obtain ⟨x0, h1, h2⟩ := h.key _ (U.firstMin_mem hx)
  exact ⟨x0, h1, h.cap hL _ _ h2⟩

section
variable {fl : Bool} {B bf bb bfo bbe bat : Nat} {W W1 : World} {b m0 mp mr md q : Nat} {G : Nat → List SArc} {FG : Nat → Prop} {P : Nat → Option Int} {par : Nat → Option SArc} {dn : Nat → Option Unit} {A : List (Int × Int)} {t : Int} {F : Nat → Prop}
    {b' m0' mp' mr' md' q' : Nat} {G' : Nat → List SArc} {FG' : Nat → Prop} {P' : Nat → Option Int} {par' : Nat → Option SArc} {dn' : Nat → Option Unit} {A' : List (Int × Int)} {t' : Int} {F' : Nat → Prop} {found : Bool} {best : Int} {at_ : Nat}
theorem Duo.round {S0 : Nat → Prop} {L : List Nat} {x : Nat} {p : Int} (h : Duo fl B bf bb bfo bbe bat W b m0 mp mr md q G FG P par dn A t F b' m0' mp' mr' md' q' G' FG' P' par' dn' A' t' F' found best at_) (hB : B ≤ bfo ∧ B ≤ bbe ∧ B ≤ bat)
    (hI : SideI G S0 L 409601 P par A 0 []) (lo' : ∀ y a, P' y = some a → 0 ≤ a ∧ a ≤ 1000000000000) (hx : U.firstMin A = some ((x : Int), p)) (hn : L.Nodup) (hL : L.length ≤ 2000) (hC : ∀ y, ∀ a ∈ G y, 1 ≤ a.price ∧ a.price ≤ 409601) (hGL : ∀ y, ∀ a ∈ G y, a.to ∈ L) (hGn : ∀ y, (G y).length ≤ 80000)
    (ht : 0 ≤ t ∧ t + (weightB L 1000000000 P : Int) ≤ 2000000002000) :
    Calls Tryz.prog 116 #[.pointer (some ⟨b, 0, none⟩), .func (.func 114) #[] #[.pointer (some ⟨bf, 0, none⟩), .pointer (some ⟨bb, 0, none⟩), .pointer (some ⟨bfo, 0, none⟩), .pointer (some ⟨bbe, 0, none⟩), .pointer (some ⟨bat, 0, none⟩)]] W fun e w' => e = .returned (.tuple #[]) ∧
      ∃ (P1 : Nat → Option Int) (par1 : Nat → Option SArc) (dn1 : Nat → Option Unit) (A1 : List (Int × Int)) (t1 : Int) (F1 : Nat → Prop) (found1 : Bool) (best1 : Int) (at1 : Nat),
        Duo fl B bf bb bfo bbe bat w' b m0 mp mr md q G FG P1 par1 dn1 A1 t1 F1 b' m0' mp' mr' md' q' G' FG' P' par' dn' A' t' F' found1 best1 at1 ∧ SideI G S0 L 409601 P1 par1 A1 0 [] ∧ 0 ≤ t1 ∧ t1 + (weightB L 1000000000 P1 : Int) ≤ t + (weightB L 1000000000 P : Int) ∧
        2 * weightB L 1000000000 P1 + A1.length < 2 * weightB L 1000000000 P + A.length ∧ KeepsD W w' ∧ Keeps (fun k => B ≤ k) W w' := by
  refine (advance_any fl W B B b m0 mp mr md q b' m0' mp' mr' md' q' bf bb bfo bbe bat at_ x found best p t P P' par dn A F FG S0 G L h.s hI hx h.s'.blk h.s'.price lo' h.met h.mi h.g h.asks.1 h.asks.2 h.d.1 hn hL hC hGL hGn ht).mono ?_
  rintro e w' ⟨rfl, P1, par1, dn1, A1, t1, F1, found1, best1, at1, ha⟩
  obtain ⟨h1, h2, h3⟩ := h.step ha
  refine ⟨rfl, P1, par1, dn1, A1, t1, _, found1, best1, at1, h3, ha.inv.anyS, ha.t0, ha.tw, ha.m, h1, ha.kp.mono (fun k _ hk => ?_)⟩
  have lo : (k = mp ∨ k = mr ∨ k = md ∨ F k) → B ≤ k := fun hs => Nat.not_lt.1 (fun hlt => h2 k hlt hs)
  rcases hk with e | e | e | e | e | e | e
  · exact lo (.inl e)
  · exact lo (.inr (.inl e))
  · exact lo (.inr (.inr (.inl e)))
  · exact lo (.inr (.inr (.inr e)))
  · rw [e]; exact hB.1
  · rw [e]; exact hB.2.1
  · rw [e]; exact hB.2.2
end

/-- Between the rounds of meet's search. -/
structure MeetS (ops : List Wop) (L : List Nat) (st : Nat) (gs : List Nat) (w : World) (b15 sf pf rf df qf sb pb rb db qb : Nat) (FN FL : Nat → Prop) (ds : List Deferred) (n : Nat) (P P' : Nat → Option Int) (par par' : Nat → Option SArc) (dn dn' : Nat → Option Unit) (A A' : List (Int × Int)) (t t' : Int) (F F' : Nat → Prop) (found : Bool) (best : Int) (at_ : Nat) (wr : World) : Prop where
  duo : Duo true w.heap.size w.heap.size (w.heap.size + 1) (w.heap.size + 3) b15 (w.heap.size + 2) wr sf (w.heap.size + 4) pf rf df qf (nextG ops L) FN P par dn A t F sb (w.heap.size + 5) pb rb db qb (lastG ops L) FL P' par' dn' A' t' F' found best at_
  i1 : SideI (nextG ops L) (fun x => x ∈ [st]) L 409601 P par A 0 []
  i2 : SideI (lastG ops L) (fun x => x ∈ gs) L 409601 P' par' A' 0 []
  t1 : 0 ≤ t ∧ t + (weightB L 1000000000 P : Int) ≤ 2000000002000
  t2 : 0 ≤ t' ∧ t' + (weightB L 1000000000 P' : Int) ≤ 2000000002000
  m : n = (2 * weightB L 1000000000 P + A.length) + (2 * weightB L 1000000000 P' + A'.length)
  keep : Keeps (fun _ => False) w wr
  marks : Marks ds wr w.heap.size
  b15 : w.heap.size ≤ b15

/-- Nothing but dead marks changes. -/
theorem SideM.mk0 {W W' : World} {B b m0 mp mr md q : Nat} {P : Nat → Option Int} {par : Nat → Option SArc} {dn : Nat → Option Unit} {A : List (Int × Int)} {t : Int} {F : Nat → Prop} (h : SideM W B b m0 mp mr md q P par dn A t F) (nd : ∀ k, F k → W.heap[k]? ≠ some (.deferred (some [])))
    (hk : Keeps (fun k => B ≤ k ∧ W.heap[k]? = some (.deferred (some []))) W W') : SideM W' B b m0 mp mr md q P par dn A t F :=
  h.keeps hk (fun e => cells_not_deferred h.blk e.2) (fun e => h.price.not_deferred e.2) (fun e => h.par_.not_deferred e.2) (fun e => h.done.not_deferred e.2) (fun k hF e => nd k hF e.2)

theorem MeetS.post {ops : List Wop} {L : List Nat} {st : Nat} {acc : Nat → Bool} {w : World} {b15 sf pf rf df qf sb pb rb db qb : Nat} {FN FL : Nat → Prop} {ds : List Deferred} {n : Nat} {P P' : Nat → Option Int} {par par' : Nat → Option SArc} {dn dn' : Nat → Option Unit} {A A' : List (Int × Int)} {t t' : Int} {F F' : Nat → Prop} {found : Bool} {best : Int} {at_ : Nat} {wr W' : World}
    (h : MeetS ops L st (L.filter acc) w b15 sf pf rf df qf sb pb rb db qb FN FL ds n P P' par par' dn dn' A A' t t' F F' found best at_ wr) (he : Ends A A' found best) (hk : Keeps (fun k => w.heap.size ≤ k ∧ wr.heap[k]? = some (.deferred (some []))) wr W') :
    Keeps (fun _ => False) w W' ∧ ∃ (mf mb : Nat), SideM W' w.heap.size sf mf pf rf df qf P par dn A t F ∧ SideM W' w.heap.size sb mb pb rb db qb P' par' dn' A' t' F' ∧
      SideI (nextG ops L) (fun x => x ∈ [st]) L 409601 P par A 0 [] ∧ SideI (lastG ops L) (fun x => x ∈ L.filter acc) L 409601 P' par' A' 0 [] ∧ MeetI P P' best at_ found ∧ Ends A A' found best :=
  ⟨h.keep.trans' hk (fun _ hi => .inr hi.1), _, _, h.duo.s.mk0 h.duo.fF.nd hk, h.duo.s'.mk0 h.duo.fF'.nd hk, h.i1, h.i2, h.duo.mi, he⟩

/-- The side that goes forth has advanced. -/
theorem MeetS.forth {ops : List Wop} {L : List Nat} {st : Nat} {gs : List Nat} {w : World} {b15 sf pf rf df qf sb pb rb db qb : Nat} {FN FL : Nat → Prop} {ds : List Deferred} {n : Nat} {P P' : Nat → Option Int} {par par' : Nat → Option SArc} {dn dn' : Nat → Option Unit} {A A' : List (Int × Int)} {t t' : Int} {F F' : Nat → Prop} {found : Bool} {best : Int} {at_ : Nat} {wr : World}
    (h : MeetS ops L st gs w b15 sf pf rf df qf sb pb rb db qb FN FL ds n P P' par par' dn dn' A A' t t' F F' found best at_ wr) (hsh : Shut ops L) (hfew : L.length ≤ 2000) (hcost : ∀ o ∈ ops, 0 ≤ o.cost ∧ o.cost ≤ 100) (hmany : ops.length ≤ 40) {x : Nat} {p : Int} (hx : U.firstMin A = some ((x : Int), p)) :
    Calls Tryz.prog 116 #[.pointer (some ⟨sf, 0, none⟩), .func (.func 114) #[] #[.pointer (some ⟨w.heap.size, 0, none⟩), .pointer (some ⟨w.heap.size + 1, 0, none⟩), .pointer (some ⟨w.heap.size + 3, 0, none⟩), .pointer (some ⟨b15, 0, none⟩), .pointer (some ⟨w.heap.size + 2, 0, none⟩)]] wr fun e w' => e = .returned (.tuple #[]) ∧
      ∃ (n1 : Nat) (P1 : Nat → Option Int) (par1 : Nat → Option SArc) (dn1 : Nat → Option Unit) (A1 : List (Int × Int)) (t1 : Int) (F1 : Nat → Prop) (found1 : Bool) (best1 : Int) (at1 : Nat), n1 < n ∧ MeetS ops L st gs w b15 sf pf rf df qf sb pb rb db qb FN FL ds n1 P1 P' par1 par' dn1 dn' A1 A' t1 t' F1 F' found1 best1 at1 w' := by
  refine (h.duo.round ⟨by omega, h.b15, by omega⟩ h.i1 (h.i2.cap12 hfew) hx hsh.1 hfew (nextG_price hcost) (nextG_in hsh) (fun y => by have := nextG_len hmany L y; omega) h.t1).mono ?_
  rintro e w' ⟨rfl, P1, par1, dn1, A1, t1, F1, found1, best1, at1, hd, hi, ht, htw, hm, hkd, hk⟩
  exact ⟨rfl, _, P1, par1, dn1, A1, t1, F1, found1, best1, at1, (by rw [h.m]; omega), hd, hi, h.i2, ⟨ht, Int.le_trans htw h.t1.2⟩, h.t2, rfl, h.keep.trans' hk (fun i hi => .inr hi), h.marks.keeps hkd, h.b15⟩

/-- The side that goes back has advanced. -/
theorem MeetS.rear {ops : List Wop} {L : List Nat} {st : Nat} {gs : List Nat} {w : World} {b15 sf pf rf df qf sb pb rb db qb : Nat} {FN FL : Nat → Prop} {ds : List Deferred} {n : Nat} {P P' : Nat → Option Int} {par par' : Nat → Option SArc} {dn dn' : Nat → Option Unit} {A A' : List (Int × Int)} {t t' : Int} {F F' : Nat → Prop} {found : Bool} {best : Int} {at_ : Nat} {wr : World}
    (h : MeetS ops L st gs w b15 sf pf rf df qf sb pb rb db qb FN FL ds n P P' par par' dn dn' A A' t t' F F' found best at_ wr) (hsh : Shut ops L) (hfew : L.length ≤ 2000) (hcost : ∀ o ∈ ops, 0 ≤ o.cost ∧ o.cost ≤ 100) (hmany : ops.length ≤ 40) {x : Nat} {p : Int} (hx : U.firstMin A' = some ((x : Int), p)) :
    Calls Tryz.prog 116 #[.pointer (some ⟨sb, 0, none⟩), .func (.func 114) #[] #[.pointer (some ⟨w.heap.size, 0, none⟩), .pointer (some ⟨w.heap.size + 1, 0, none⟩), .pointer (some ⟨w.heap.size + 3, 0, none⟩), .pointer (some ⟨b15, 0, none⟩), .pointer (some ⟨w.heap.size + 2, 0, none⟩)]] wr fun e w' => e = .returned (.tuple #[]) ∧
      ∃ (n1 : Nat) (P1 : Nat → Option Int) (par1 : Nat → Option SArc) (dn1 : Nat → Option Unit) (A1 : List (Int × Int)) (t1 : Int) (F1 : Nat → Prop) (found1 : Bool) (best1 : Int) (at1 : Nat), n1 < n ∧ MeetS ops L st gs w b15 sf pf rf df qf sb pb rb db qb FN FL ds n1 P P1 par par1 dn dn1 A A1 t t1 F F1 found1 best1 at1 w' := by
  have hd := h.duo.swap
  refine (hd.round ⟨by omega, h.b15, by omega⟩ h.i2 (h.i1.cap12 hfew) hx hsh.1 hfew (lastG_price hcost) lastG_in (fun y => by have := lastG_len hmany L y; omega) h.t2).mono ?_
  rintro e w' ⟨rfl, P1, par1, dn1, A1, t1, F1, found1, best1, at1, hd1, hi, ht, htw, hm, hkd, hk⟩
  exact ⟨rfl, _, P1, par1, dn1, A1, t1, F1, found1, best1, at1, (by rw [h.m]; omega), hd1.swap, h.i1, hi, h.t1, ⟨ht, Int.le_trans htw h.t2.2⟩, rfl, h.keep.trans' hk (fun i hi => .inr hi), h.marks.keeps hkd, h.b15⟩

theorem ends_first {A A' : List (Int × Int)} {best p p' x x' : Int} (h1 : U.firstMin A = some (x, p)) (h2 : U.firstMin A' = some (x', p')) (h : best ≤ p + p') : Ends A A' true best :=
  .inr (.inr ⟨rfl, fun a ha b hb => by have e1 := U.firstMin_least h1 a ha; have e2 := U.firstMin_least h2 b hb; simp only at e1 e2; omega⟩)

/-- What meet returns: both sides as they are at the end. -/
def MeetPost (ops : List Wop) (L : List Nat) (st : Nat) (acc : Nat → Bool) (w : World) (e : Ending) (w' : World) : Prop := Keeps (fun _ => False) w w' ∧
  ∃ (sf sb at_ : Nat) (found : Bool) (best : Int) (P P' : Nat → Option Int) (par par' : Nat → Option SArc) (dn dn' : Nat → Option Unit) (A A' : List (Int × Int)) (t t' : Int) (F F' : Nat → Prop) (mf pf rf df qf mb pb rb db qb : Nat),
    e = .returned (.tuple #[.pointer (some ⟨sf, 0, none⟩), .pointer (some ⟨sb, 0, none⟩), .int .u32 (at_ : Int), .bool found]) ∧ SideM w' w.heap.size sf mf pf rf df qf P par dn A t F ∧ SideM w' w.heap.size sb mb pb rb db qb P' par' dn' A' t' F' ∧
    SideI (nextG ops L) (fun x => x ∈ [st]) L 409601 P par A 0 [] ∧ SideI (lastG ops L) (fun x => x ∈ L.filter acc) L 409601 P' par' A' 0 [] ∧ MeetI P P' best at_ found ∧ Ends A A' found best

theorem results_cells4 {P : Program} {fn : Func} {tmps : Array Value} {w : World} {t1 t2 t3 t4 : TypeId} {s1 s2 s3 s4 : Tmp} {g1 g2 g3 g4 : Nat} {v1 v2 v3 v4 : Value}
    (h : fn.results = #[.cell s1 t1, .cell s2 t2, .cell s3 t3, .cell s4 t4])
    (p1 : tmps.getD s1 undef = .pointer (some ⟨g1, 0, none⟩)) (p2 : tmps.getD s2 undef = .pointer (some ⟨g2, 0, none⟩)) (p3 : tmps.getD s3 undef = .pointer (some ⟨g3, 0, none⟩)) (p4 : tmps.getD s4 undef = .pointer (some ⟨g4, 0, none⟩))
    (c1 : (loadVar t1 ⟨g1, 0, none⟩).run P w = .ok v1 w) (c2 : (loadVar t2 ⟨g2, 0, none⟩).run P w = .ok v2 w) (c3 : (loadVar t3 ⟨g3, 0, none⟩).run P w = .ok v3 w) (c4 : (loadVar t4 ⟨g4, 0, none⟩).run P w = .ok v4 w) :
    (results fn tmps).run P w = .ok (.tuple #[v1, v2, v3, v4]) w := by
  have p1' : tmps[s1]?.getD undef = .pointer (some ⟨g1, 0, none⟩) := by simpa using p1
  have p2' : tmps[s2]?.getD undef = .pointer (some ⟨g2, 0, none⟩) := by simpa using p2
  have p3' : tmps[s3]?.getD undef = .pointer (some ⟨g3, 0, none⟩) := by simpa using p3
  have p4' : tmps[s4]?.getD undef = .pointer (some ⟨g4, 0, none⟩) := by simpa using p4
  simp [results, h, p1', p2', p3', p4', asAddr, c1, c2, c3, c4]

theorem MeetS.keeps0 {ops : List Wop} {L : List Nat} {st : Nat} {gs : List Nat} {w : World} {b15 sf pf rf df qf sb pb rb db qb : Nat} {FN FL : Nat → Prop} {ds : List Deferred} {n : Nat} {P P' : Nat → Option Int} {par par' : Nat → Option SArc} {dn dn' : Nat → Option Unit} {A A' : List (Int × Int)} {t t' : Int} {F F' : Nat → Prop} {found : Bool} {best : Int} {at_ : Nat} {wr wr' : World}
    (h : MeetS ops L st gs w b15 sf pf rf df qf sb pb rb db qb FN FL ds n P P' par par' dn dn' A A' t t' F F' found best at_ wr) (hk : Keeps (fun _ => False) wr wr') : MeetS ops L st gs w b15 sf pf rf df qf sb pb rb db qb FN FL ds n P P' par par' dn dn' A A' t t' F F' found best at_ wr' :=
  ⟨h.duo.keeps0 hk, h.i1, h.i2, h.t1, h.t2, h.m, h.keep.trans hk, h.marks.keeps (KeepsD.of0 hk), h.b15⟩

theorem load_blk1 {P : Program} {W : World} {B : Nat} {t : TypeId} {v : Value} {d : TypeDesc} (hu : P.underlying t = some d) (hd : (match d with | .struct _ | .array _ _ => true | _ => false) = false) (h : W.heap[B]? = some (.cells #[v] t (0, 0))) :
    (loadVar t ⟨B, 0, none⟩).run P W = .ok v W := by
  have hc : W.cell? ⟨B, 0, none⟩ = some v := by rw [cell_of_blk h]; rfl
  unfold loadVar
  simp [Sem.run_bind, run_isAgg_plain hu hd, Result.andThen, go_sem, hc]

/-- meet returns. -/
theorem MeetS.leave {ops : List Wop} {L : List Nat} {st : Nat} {acc : Nat → Bool} {w : World} {b15 sf pf rf df qf sb pb rb db qb : Nat} {FN FL : Nat → Prop} {ds : List Deferred} {n : Nat} {P P' : Nat → Option Int} {par par' : Nat → Option SArc} {dn dn' : Nat → Option Unit} {A A' : List (Int × Int)} {t t' : Int} {F F' : Nat → Prop} {found : Bool} {best : Int} {at_ : Nat} {wr W' : World}
    (h : MeetS ops L st (L.filter acc) w b15 sf pf rf df qf sb pb rb db qb FN FL ds n P P' par par' dn dn' A A' t t' F F' found best at_ wr) (he : Ends A A' found best) (hk : Keeps (fun k => w.heap.size ≤ k ∧ wr.heap[k]? = some (.deferred (some []))) wr W') {tmps : Array Value}
    (p4 : tmps.getD 4 undef = .pointer (some ⟨w.heap.size, 0, none⟩)) (p5 : tmps.getD 5 undef = .pointer (some ⟨w.heap.size + 1, 0, none⟩)) (p6 : tmps.getD 6 undef = .pointer (some ⟨w.heap.size + 2, 0, none⟩)) (p7 : tmps.getD 7 undef = .pointer (some ⟨w.heap.size + 3, 0, none⟩)) :
    ∃ v, (results Tryz.f74 tmps).run Tryz.prog W' = .ok v W' ∧ MeetPost ops L st acc w (.returned v) W' := by
  obtain ⟨k1, mf, mb, s1, s2, i1, i2, mi, en⟩ := h.post he hk
  have hm := h.duo.met
  refine ⟨.tuple #[.pointer (some ⟨sf, 0, none⟩), .pointer (some ⟨sb, 0, none⟩), .int .u32 (at_ : Int), .bool found], results_cells4 rfl p4 p5 p6 p7 ?_ ?_ ?_ ?_, k1, sf, sb, at_, found, best, P, P', par, par', dn, dn', A, A', t, t', F, F', mf, pf, rf, df, qf, mb, pb, rb, db, qb, rfl, s1, s2, i1, i2, mi, en⟩
  · exact load_blk1 Tryz.underlying114 rfl (hk.heap hm.f (fun e => cells_not_deferred hm.f e.2))
  · exact load_blk1 Tryz.underlying114 rfl (hk.heap hm.b (fun e => cells_not_deferred hm.b e.2))
  · exact load_blk1 Tryz.underlying77 rfl (hk.heap hm.at_ (fun e => cells_not_deferred hm.at_ e.2))
  · exact load_blk1 Tryz.underlying4 rfl (hk.heap hm.fo (fun e => cells_not_deferred hm.fo e.2))

end Go.Proofs.YtcpmjoabhnfddaaGreat
