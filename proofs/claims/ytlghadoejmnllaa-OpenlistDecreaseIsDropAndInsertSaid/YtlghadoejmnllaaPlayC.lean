/- drain, Play, Rest. -/
import Derived.Test.YtlghadoejmnllaaPlayB
import Derived.Test.YtlghadoejmnllaaRes
namespace Go.Proofs.Ytlghadoejmnllaa
open Go.RowKit

theorem filter_len {A : List (Int × Int)} (hn : (A.map Prod.fst).Nodup) {p : Int × Int} (h : p ∈ A) : (A.filter (fun q => q.1 != p.1)).length + 1 = A.length := by
  induction A with
  | nil => simp at h
  | cons a r ih =>
    simp only [List.map_cons, List.nodup_cons] at hn
    rcases List.mem_cons.1 h with rfl | h'
    · have : r.filter (fun q => q.1 != p.1) = r := by
        rw [List.filter_eq_self]; intro q hq; simp; intro e; exact hn.1 (List.mem_map.2 ⟨q, hq, e⟩)
      rw [List.filter_cons]; simp [this]
    · have hne : a.1 ≠ p.1 := fun e => hn.1 (List.mem_map.2 ⟨p, h', e.symm⟩)
      rw [List.filter_cons, if_pos (by simpa using hne)]
      simp [ih hn.2 h']

theorem QRep.nd {w : World} {Q : Nat} {A : List (Int × Int)} {t : Int} {F : Nat → Prop} (h : QRep w Q A t F) : (A.map Prod.fst).Nodup := by
  obtain ⟨v, Mb, l, L, E, h⟩ := h; exact h.ndA

structure DrainInv (w : World) (Q : Nat) (F : Nat → Prop) (A : List (Int × Int)) (k : Nat) (v : Value) (wr : World) : Prop where
  ex : ∃ (A' : List (Int × Int)) (tk : List Int) (t : Int), A'.length = k ∧ tk.length + A'.length = A.length ∧ tk ++ drainA A'.length A' = drainA A.length A ∧ wr.ownsRow w.heap.size 3 1 v tk.length (tk.map (Value.int .i64)) ∧
    QRep wr Q A' t (fun b => F b ∧ b < w.heap.size) ∧ Keeps F w wr

set_option maxHeartbeats 1000000 in
theorem drain_any (w : World) (Q : Nat) (A : List (Int × Int)) (t : Int) (F : Nat → Prop) (h : QRep w Q A t F) (hA : A.length ≤ 1000) :
    Calls Try.prog 18 #[.pointer (some ⟨Q, 0, none⟩)] w fun e w' => ∃ v, e = .returned v ∧ w'.ownsRow w.heap.size 3 1 v (drainA A.length A).length ((drainA A.length A).map (Value.int .i64)) ∧ Keeps F w w' := by
  have hI : DrainInv w Q F A A.length (.slice none 0 0) w := ⟨A, [], t, rfl, by simp, rfl, World.ownsRow_nil _ _ _ _, h.mono (fun b hb hF => ⟨hF, hb⟩), Keeps.refl _ _⟩
  have HI := Lib.hid hI
  clear h hI
  go_enter Try.func18, Try.ntmps18
  go_wp2_with fail
  go_loopg [3] A.length (fun k ov wr => DrainInv w Q F A k ov wr)
  case atStart => exact HI.out
  case round =>
    obtain ⟨A', tk, t', hk, hlen, heq, hown, hrep, hkeep⟩ := hrel.ex
    have HK := Lib.hid hk
    have HL := Lib.hid hlen
    have HE := Lib.hid heq
    have HO := Lib.hid hown
    have HR := Lib.hid hrep
    have HKP := Lib.hid hkeep
    clear hrel hk hlen heq hown hrep hkeep
    cases hf : firstMin A' with
    | none =>
      obtain rfl := firstMin_none.1 hf
      have hd : tk = drainA A.length A := by have := HE.out; simpa [drainA] using this
      have HD := Lib.hid hd; clear hd
      clear hf
      go_wp2_with fail
      refine (qlen_any _ Q _ _ _ HR.out).mono ?_; rintro e w' ⟨he, rfl⟩; simp only [List.length_nil] at he; subst he
      go_wp2_with fail
      go_ret
      refine ⟨_, rfl, ?_, HKP.out⟩
      rw [← HD.out]; exact HO.out
    | some p =>
      obtain ⟨px, pk⟩ := p
      have hmem := firstMin_mem hf
      have hfl := filter_len HR.out.nd hmem
      simp only at hfl
      have HF := Lib.hid hf
      have HFL := Lib.hid hfl
      have hpos : 0 < A'.length := by omega
      have hle : A'.length ≤ 1000 := by have := HL.out; omega
      clear hf hfl hmem
      go_wp2_with fail
      refine (qlen_any _ Q _ _ _ HR.out).mono ?_; rintro e w' ⟨rfl, rfl⟩
      go_wp2_with fail
      refine (take_some _ Q A' t' _ HR.out px pk HF.out).mono ?_; rintro e w2 ⟨rfl, hr, hk2⟩
      have own2 := hk2.ownsRow HO.out (fun k hk hb => by have := (HO.out.lt k hk).1; omega)
      have HR2 := Lib.hid hr
      have HK2 := Lib.hid hk2
      have HO2 := Lib.hid own2
      obtain ⟨i0, hi0, hz0, hz1, hz2⟩ := info_parts Try.info3
      obtain ⟨ao', cap', rfl⟩ := ownsRow_form1 HO2.out
      have hs1 : w.heap.size ≤ w2.heap.size := Nat.le_trans HKP.out.size hk2.size
      have htk : tk.length ≤ 1000 := by have := HL.out; omega
      clear hr hk2 own2
      go_wp2_with (at_builtin; refine wpList_append_lies _ rfl _ _ _ rfl w.heap.size 3 i0 _ 1 8 Try.underlying23 hi0 hz0 hz1 hz2 rfl (by omega) _ tk.length _ (by rfl) (HO2.out.alloc _) ⟨w2.heap.size, 0, none⟩ 1 1 [.int .i64 px] (by rfl) (by rfl) ?hnews ?hone (by omega) (by unfold maxLen; omega) (by omega) (by simp; omega) (w2.heap.size + 1) (by simp) ?_)
      case hnews => exact World.news_of_block (cs := #[.int .i64 px]) (t := 3) (fr := (0, 0)) (heap_alloc_new _ _)
      case hone => simp [Value.oneCell']
      intro g cap2 w3 hown hgrow hat hlt3
      have hN : DrainInv w Q F A (A'.length - 1) (.slice (some ⟨g, 0, none⟩) (tk.length + 1) cap2) w3 := by
        have k3 := ((Keeps.refl (fun b => (Value.slice ao' tk.length cap').ownBlock = some b) w2).alloc (.cells #[.int .i64 px] 3)).grown hgrow (fun k hk => .inl hk)
        refine ⟨A'.filter (fun q => q.1 != px), tk ++ [px], t', by have := HFL.out; omega, by have := HFL.out; have := HL.out; simp; omega, ?_, by simpa using hown, ?_, ?_⟩
        · rw [← HE.out]
          obtain ⟨m, hm⟩ : ∃ m, A'.length = m + 1 := ⟨A'.length - 1, by omega⟩
          have : (A'.filter (fun q => q.1 != px)).length = m := by have := HFL.out; omega
          rw [hm, this, drainA, HF.out]; simp
        · refine HR2.out.keeps k3 ?_
          intro b hb hv
          have := (HO2.out.lt b hv).1; omega
        · refine (HKP.out.trans (HK2.out.mono (fun _ _ hb => hb.1))).trans' k3 ?_
          intro b hb
          right; exact (HO2.out.lt b hb).1
      have HN := Lib.hid hN
      clear hN hown hgrow hat
      go_wp2_with fail
      go_roundg (A'.length - 1)
      case rel => exact HN.out
      case measure => have := HK.out; omega

/-- What Play, Rest, Sort leave. -/
def ListPost (w : World) (r : Except (Int × Int) (List Int)) (e : Ending) (w' : World) : Prop :=
  Keeps (fun _ => False) w w' ∧ match r with
  | .error (c, n) => e = .returned (.tuple #[.slice none 0 0, .agg #[.int .i64 c, .int .i64 n]])
  | .ok l => ∃ v, e = .returned (.tuple #[v, .agg #[.int .i64 0, .int .i64 0]]) ∧ w'.ownsRow w.heap.size 3 1 v l.length (l.map (Value.int .i64))

def takenQ (ops : List QOp) : Except (Int × Int) (List Int) := (playQ ops).map Prod.fst
def restQ (ops : List QOp) : Except (Int × Int) (List Int) := (playQ ops).map fun p => drainA p.2.length p.2

set_option maxHeartbeats 1000000 in
theorem Play_any (w : World) (v : Value) (ops : List QOp) (h : Sl w v ops.length (opCells ops)) :
    Calls Try.prog 8 #[v] w (ListPost w (takenQ ops)) := by
  have h1 := h.keeps0 ((Keeps.refl _ _).alloc (.cells #[.int .i64 0, .int .i64 0] 25))
  have H1 := Lib.hid h1
  clear h h1
  go_enter Try.func8, Try.ntmps8
  go_wp2_with fail
  refine (play_any _ v ops H1.out).mono ?_
  rintro e w1 ⟨hk, hr⟩
  have hb : w1.heap[w.heap.size]? = some (.cells #[.int .i64 0, .int .i64 0] 25 (0, 0)) := hk.heap (heap_alloc_new w _) (fun h => h)
  have f0 : w1.cell? ⟨w.heap.size, 0, none⟩ = some (.int .i64 0) := by rw [cell_of_blk hb]; rfl
  have f1 : w1.cell? ⟨w.heap.size, 1, none⟩ = some (.int .i64 0) := by rw [cell_of_blk hb]; rfl
  have g0 : w1.frozen? ⟨w.heap.size, 0, none⟩ = false := frozen_of_blk hb
  have g1 : w1.frozen? ⟨w.heap.size, 1, none⟩ = false := frozen_of_blk hb
  have lt1 := lt_of_heap hb
  have HK := Lib.hid (((Keeps.refl (fun _ => False) w).alloc _).trans hk)
  have HB := Lib.hid hb
  have KF : Hid (∀ c n o, Keeps (fun _ => False) w (((((w1.setCell ⟨w.heap.size, 0, none⟩ c).setCell ⟨w.heap.size, 1, none⟩ n).alloc o).drew))) := fun c n o =>
    (HK.out.trans' ((keeps_pair w.heap.size c n).alloc o) (fun i hi => .inr (by omega))).drew
  have KB : Hid (∀ c n o, (((w1.setCell ⟨w.heap.size, 0, none⟩ c).setCell ⟨w.heap.size, 1, none⟩ n).alloc o).heap[w.heap.size]? = some (.cells #[c, n] 25 (0, 0))) := fun c n o => pair_alloc (pair_set hb c n)
  have hsz : (w.alloc (.cells #[.int .i64 0, .int .i64 0] 25)).heap.size = w.heap.size + 1 := by simp
  cases hp : playQ ops with
  | error cn =>
    obtain ⟨c, n⟩ := cn
    rw [hp] at hr
    subst hr
    have HP : Hid (∀ w', Keeps (fun _ => False) w w' → ListPost w (takenQ ops) (.returned (.tuple #[.slice none 0 0, .agg #[.int .i64 c, .int .i64 n]])) w') := fun w' hk => ⟨hk, by unfold takenQ; rw [hp]; rfl⟩
    clear hp hk hb
    go_wp2_with fail
    go_region
    go_wp2
    refine bodyPost_ret (results_tmp_cell _ _ w.heap.size 25 _ _ _ rfl rfl (KB.out _ _ _) Try.underlying25 rfl (by kernel_rfl)) rfl ?_
    exact HP.out _ (KF.out _ _ _)
  | ok r =>
    obtain ⟨tk, A⟩ := r
    rw [hp] at hr
    obtain ⟨Q, u, t, rfl, ht0, ht1, hA, htk, hown, hrep⟩ := hr
    rw [hsz] at hown
    have HP : Hid (∀ w', Keeps (fun _ => False) w w' → w'.ownsRow (w.heap.size + 1) 3 1 u tk.length (tk.map (Value.int .i64)) → ListPost w (takenQ ops) (.returned (.tuple #[u, .agg #[.int .i64 0, .int .i64 0]])) w') := fun w' hk ho => ⟨hk, by unfold takenQ; rw [hp]; exact ⟨u, rfl, ownsRow_mono ho (by omega)⟩⟩
    have HO := Lib.hid hown
    clear hp hk hb hown hrep
    go_wp2_with fail
    go_region
    go_wp2
    refine bodyPost_ret (results_tmp_cell _ _ w.heap.size 25 _ _ _ rfl rfl (KB.out _ _ _) Try.underlying25 rfl (by kernel_rfl)) rfl ?_
    refine HP.out _ (KF.out _ _ _) ?_
    exact ((keeps_pair w.heap.size _ _).alloc _).drew.ownsRow HO.out (fun k hk hb => by have := (HO.out.lt k hk).1; omega)

end Go.Proofs.Ytlghadoejmnllaa
