/- Rest, Sort. -/
import Derived.Test.YtlghadoejmnllaaPlayC
namespace Go.Proofs.Ytlghadoejmnllaa
open Go.RowKit

theorem playFrom_error {ops : List QOp} : ∀ {n : Int} {A : List (Int × Int)} {tk : List Int} {c i : Int}, playFrom ops n A tk = .error (c, i) → c ≠ 0 := by
  induction ops with
  | nil => intro n A tk c i h; simp [playFrom] at h
  | cons o r ih =>
    intro n A tk c i h
    rw [playFrom] at h
    split at h
    · rename_i hc; simp at h; rw [← h.1]; exact hc
    · exact ih h

theorem playQ_error {ops : List QOp} {c i : Int} (h : playQ ops = .error (c, i)) : c ≠ 0 := by
  unfold playQ at h
  split at h
  · simp at h; omega
  · exact playFrom_error h

set_option maxHeartbeats 1000000 in
theorem Rest_any (w : World) (v : Value) (ops : List QOp) (h : Sl w v ops.length (opCells ops)) :
    Calls Try.prog 9 #[v] w (ListPost w (restQ ops)) := by
  have h1 := h.keeps0 ((Keeps.refl _ _).alloc (.cells #[.int .i64 0, .int .i64 0] 25))
  have H1 := Lib.hid h1
  clear h h1
  go_enter Try.func9, Try.ntmps9
  go_wp2_with fail
  refine (play_any _ v ops H1.out).mono ?_
  rintro e w1 ⟨hk, hr⟩
  have hb : w1.heap[w.heap.size]? = some (.cells #[.int .i64 0, .int .i64 0] 25 (0, 0)) := hk.heap (heap_alloc_new w _) (fun h => h)
  have f0 : w1.cell? ⟨w.heap.size, 0, none⟩ = some (.int .i64 0) := by rw [cell_of_blk hb]; rfl
  have f1 : w1.cell? ⟨w.heap.size, 1, none⟩ = some (.int .i64 0) := by rw [cell_of_blk hb]; rfl
  have g0 : w1.frozen? ⟨w.heap.size, 0, none⟩ = false := frozen_of_blk hb
  have g1 : w1.frozen? ⟨w.heap.size, 1, none⟩ = false := frozen_of_blk hb
  have lt1 := lt_of_heap hb
  have HK := Lib.hid (((Keeps.refl (fun _ => False) w).alloc _).trans hk)
  have HB := Lib.hid hb
  have KF : Hid (∀ c n o, Keeps (fun _ => False) w (((((w1.setCell ⟨w.heap.size, 0, none⟩ c).setCell ⟨w.heap.size, 1, none⟩ n).alloc o).drew))) := fun c n o =>
    (HK.out.trans' ((keeps_pair w.heap.size c n).alloc o) (fun i hi => .inr (by omega))).drew
  have KB : Hid (∀ c n o, (((w1.setCell ⟨w.heap.size, 0, none⟩ c).setCell ⟨w.heap.size, 1, none⟩ n).alloc o).heap[w.heap.size]? = some (.cells #[c, n] 25 (0, 0))) := fun c n o => pair_alloc (pair_set hb c n)
  have hsz : (w.alloc (.cells #[.int .i64 0, .int .i64 0] 25)).heap.size = w.heap.size + 1 := by simp
  cases hp : playQ ops with
  | error cn =>
    obtain ⟨c, n⟩ := cn
    rw [hp] at hr
    subst hr
    have HP : Hid (∀ w', Keeps (fun _ => False) w w' → ListPost w (restQ ops) (.returned (.tuple #[.slice none 0 0, .agg #[.int .i64 c, .int .i64 n]])) w') := fun w' hk => ⟨hk, by unfold restQ; rw [hp]; rfl⟩
    have hc := playQ_error hp
    have bc : (c == 0) = false := by simpa using hc
    have bc' : (c != 0) = true := by simpa using hc
    clear hp hk hb hc
    go_wp2_with fail
    go_region
    go_wp2
    refine bodyPost_ret (results_tmp_cell _ _ w.heap.size 25 _ _ _ rfl rfl (KB.out _ _ _) Try.underlying25 rfl (by kernel_rfl)) rfl ?_
    exact HP.out _ (KF.out _ _ _)
  | ok r =>
    obtain ⟨tk, A⟩ := r
    rw [hp] at hr
    obtain ⟨Q, u, t, rfl, ht0, ht1, hA, htk, hown, hrep⟩ := hr
    rw [hsz] at hrep
    have hrep2 : QRep (w1.alloc (.cells #[.int .i64 0, .int .i64 0] 25)) Q A t (fun b => w.heap.size + 1 ≤ b) := (hrep.keeps ((Keeps.refl (fun _ => False) _).alloc _) (fun _ _ h => h)).mono (fun b _ hb => hb.1)
    have HP : Hid (∀ w' v', Keeps (fun _ => False) w w' → w'.ownsRow (w.heap.size + 1) 3 1 v' (drainA A.length A).length ((drainA A.length A).map (Value.int .i64)) → ListPost w (restQ ops) (.returned (.tuple #[v', .agg #[.int .i64 0, .int .i64 0]])) w') := fun w' v' hk ho => ⟨hk, by unfold restQ; rw [hp]; exact ⟨v', rfl, ownsRow_mono ho (by omega)⟩⟩
    have HR := Lib.hid hrep2
    have HA := Lib.hid hA
    clear hp hk hb hown hrep hrep2 hA
    go_wp2_with fail
    refine (drain_any _ Q A t _ HR.out (by have := HA.out; omega)).mono ?_; rintro e w2 ⟨v', rfl, hown, hk2⟩
    have k12 : Keeps (fun b => w.heap.size + 1 ≤ b) w1 w2 := ((Keeps.refl _ w1).alloc _).trans hk2
    have hb2 : w2.heap[w.heap.size]? = some (.cells #[.int .i64 0, .int .i64 0] 25 (0, 0)) := k12.heap HB.out (by omega)
    have f0' : w2.cell? ⟨w.heap.size, 0, none⟩ = some (.int .i64 0) := by rw [cell_of_blk hb2]; rfl
    have f1' : w2.cell? ⟨w.heap.size, 1, none⟩ = some (.int .i64 0) := by rw [cell_of_blk hb2]; rfl
    have g0' : w2.frozen? ⟨w.heap.size, 0, none⟩ = false := frozen_of_blk hb2
    have g1' : w2.frozen? ⟨w.heap.size, 1, none⟩ = false := frozen_of_blk hb2
    have K2 := Lib.hid (HK.out.trans' k12 (fun i hi => .inr (by omega)))
    have KB2 := Lib.hid (pair_set hb2 (.int .i64 0) (.int .i64 0))
    have HO := Lib.hid (ownsRow_mono hown (show w.heap.size + 1 ≤ _ by simp; omega))
    clear hown hk2 k12 hb2
    go_wp2_with fail
    refine bodyPost_ret (results_tmp_cell _ _ w.heap.size 25 _ _ _ rfl rfl KB2.out Try.underlying25 rfl (by kernel_rfl)) rfl ?_
    refine HP.out _ _ (K2.out.trans' (keeps_pair w.heap.size _ _) (fun i hi => .inr (by omega))) ?_
    exact (keeps_pair w.heap.size _ _).ownsRow HO.out (fun k hk hb => by have := (HO.out.lt k hk).1; omega)

/-! ### Sort -/

/-- What the keys from number i on come to. -/
def keysFrom : List Int → Int → Option (Int × Int)
  | [], _ => none
  | k :: r, n => if k < 0 ∨ 1000000 < k then some (3, n) else keysFrom r (n + 1)

def keysQ (keys : List Int) : Option (Int × Int) := if 60 < keys.length then some (2, -1) else keysFrom keys 0

/-- The queue that the keys make. -/
def keysA (keys : List Int) (i : Int) : List (Int × Int) := match keys with
  | [] => []
  | k :: r => (i, k) :: keysA r (i + 1)

def sortQ (keys : List Int) : Except (Int × Int) (List Int) := match keysQ keys with
  | some e => .error e
  | none => .ok (drainA (keysA keys 0).length (keysA keys 0))

theorem length_keysA (keys : List Int) : ∀ i, (keysA keys i).length = keys.length := by
  induction keys with
  | nil => intro i; rfl
  | cons k r ih => intro i; simp [keysA, ih]

theorem keysA_snoc (l : List Int) (k : Int) : ∀ i, keysA (l ++ [k]) i = keysA l i ++ [(i + l.length, k)] := by
  induction l with
  | nil => intro i; simp [keysA]
  | cons a r ih => intro i; simp [keysA, ih]; omega

theorem keysA_fst {l : List Int} : ∀ {i : Int} {p : Int × Int}, p ∈ keysA l i → i ≤ p.1 ∧ p.1 < i + l.length := by
  induction l with
  | nil => intro i p h; simp [keysA] at h
  | cons a r ih =>
    intro i p h
    simp only [keysA, List.mem_cons] at h
    rcases h with rfl | h
    · simp; omega
    · have := ih h; simp; omega

structure SortInv (w : World) (Q : Nat) (keys : List Int) (n : Nat) (wr : World) : Prop where
  eq : keysFrom (keys.drop n) n = keysFrom keys 0
  keeps : Keeps (fun _ => False) w wr
  fault : wr.heap[w.heap.size]? = some (.cells #[.int .i64 0, .int .i64 0] 25 (0, 0))
  rep : QRep wr Q (keysA (keys.take n) 0) n (fun b => w.heap.size < b)

theorem take_get {l : List Int} {n : Nat} {k : Int} (h : l[n]? = some k) : l.take (n + 1) = l.take n ++ [k] := by
  obtain ⟨h1, h2⟩ := List.getElem?_eq_some_iff.1 h
  rw [List.take_succ_eq_append_getElem h1, h2]

theorem dropI_get {l : List Int} {n : Nat} {k : Int} (h : l[n]? = some k) : l.drop n = k :: l.drop (n + 1) := by
  obtain ⟨h1, h2⟩ := List.getElem?_eq_some_iff.1 h
  rw [← h2, List.getElem_cons_drop]

set_option maxHeartbeats 1000000 in
theorem Sort_any (w : World) (v : Value) (keys : List Int) (h : Ints w v keys) :
    Calls Try.prog 13 #[v] w (ListPost w (sortQ keys)) := by
  obtain ⟨ao, cap, rfl, hm, hc⟩ := h
  unfold maxLen at hm
  by_cases h60 : 60 < keys.length
  · have HP : Hid (∀ w', Keeps (fun _ => False) w w' → ListPost w (sortQ keys) (.returned (.tuple #[.slice none 0 0, .agg #[.int .i64 2, .int .i64 (-1)]])) w') := fun w' hk => ⟨hk, by unfold sortQ keysQ; rw [if_pos h60]⟩
    clear hc
    go_enter Try.func13, Try.ntmps13
    go_wp2
    refine bodyPost_ret (results_tmp_cell _ _ w.heap.size 25 _ _ _ rfl rfl (heap_alloc_new w _) Try.underlying25 rfl (by kernel_rfl)) rfl ?_
    exact HP.out _ ((Keeps.refl _ _).alloc _)
  · have HC := Lib.hid hc
    have hkq : keysQ keys = keysFrom keys 0 := by unfold keysQ; rw [if_neg h60]
    have HQ := Lib.hid hkq
    clear hc hkq
    go_enter Try.func13, Try.ntmps13
    go_wp2_with fail
    refine (new_any _).mono ?_; rintro e w1 ⟨rfl, hr, hk⟩
    have hI : SortInv w (w.heap.size + 1 + 1) keys 0 w1 := by
      have hsz : (w.alloc (.cells #[.int .i64 0, .int .i64 0] 25)).heap.size = w.heap.size + 1 := by simp
      rw [hsz] at hr
      exact ⟨rfl, ((Keeps.refl _ _).alloc _).trans hk, hk.heap (heap_alloc_new w _) (fun h => h), hr.mono (fun b _ hb => by omega)⟩
    have HI := Lib.hid hI
    clear hI hr hk
    go_wp2_with fail
    go_loopw [14] (fun iv wr => ∃ n : Nat, iv = .int .i64 (n : Int) ∧ n ≤ keys.length ∧ SortInv w (w.heap.size + 1 + 1) keys n wr) (fun iv _ => keys.length - (intOf iv).toNat)
    case atStart => exact ⟨0, rfl, Nat.zero_le _, HI.out⟩
    case round =>
      obtain ⟨n, rfl, hn, hJ⟩ := hrel
      have HJ := Lib.hid hJ
      clear hJ
      by_cases hlt : n < keys.length
      · obtain ⟨b, off, rfl, hcell⟩ := HC.out (by omega)
        obtain ⟨k, ho⟩ : ∃ k, keys[n]? = some k := ⟨_, List.getElem?_eq_getElem hlt⟩
        have p1 := HJ.out.keeps.cell (hcell n (.int .i64 k) (by rw [List.getElem?_map, ho]; rfl)) (fun h => h)
        have hn60 : n ≤ 60 := by omega
        have HO := Lib.hid ho
        clear ho hcell
        by_cases hb : k < 0 ∨ 1000000 < k
        · have hke : keysQ keys = some (3, (n : Int)) := by rw [HQ.out, ← HJ.out.eq, dropI_get HO.out, keysFrom, if_pos hb]
          have HP : Hid (∀ w', Keeps (fun _ => False) w w' → ListPost w (sortQ keys) (.returned (.tuple #[.slice none 0 0, .agg #[.int .i64 3, .int .i64 (n : Int)]])) w') := fun w' hk => ⟨hk, by unfold sortQ; rw [hke]⟩
          have f0 : wr.cell? ⟨w.heap.size, 0, none⟩ = some (.int .i64 0) := by rw [cell_of_blk HJ.out.fault]; rfl
          have f1 : wr.cell? ⟨w.heap.size, 1, none⟩ = some (.int .i64 0) := by rw [cell_of_blk HJ.out.fault]; rfl
          have g0 : wr.frozen? ⟨w.heap.size, 0, none⟩ = false := frozen_of_blk HJ.out.fault
          have g1 : wr.frozen? ⟨w.heap.size, 1, none⟩ = false := frozen_of_blk HJ.out.fault
          clear hke
          rcases hb with hb | hb
          · go_wp2_with fail
            refine bodyPost_ret (results_tmp_cell _ _ w.heap.size 25 _ _ _ rfl rfl (pair_set HJ.out.fault _ _) Try.underlying25 rfl (by kernel_rfl)) rfl ?_
            exact HP.out _ (HJ.out.keeps.trans' (keeps_pair w.heap.size _ _) (fun i hi => .inr (by omega)))
          · go_wp2_with fail
            refine bodyPost_ret (results_tmp_cell _ _ w.heap.size 25 _ _ _ rfl rfl (pair_set HJ.out.fault _ _) Try.underlying25 rfl (by kernel_rfl)) rfl ?_
            exact HP.out _ (HJ.out.keeps.trans' (keeps_pair w.heap.size _ _) (fun i hi => .inr (by omega)))
        · have hb1 : 0 ≤ k := by omega
          have hb2 : k ≤ 1000000 := by omega
          have HB := Lib.hid hb
          clear hb
          have hlen : (keysA (keys.take n) 0).length ≤ 999999 := by rw [length_keysA]; simp; omega
          have HL := Lib.hid hlen
          have hnew : ∀ p ∈ keysA (keys.take n) 0, p.1 ≠ (n : Int) := fun p hp e => by have := (keysA_fst hp).2; simp at this; omega
          have HNW := Lib.hid hnew
          clear hlen hnew
          go_wp2_with fail
          refine (set_new _ _ _ n _ HJ.out.rep (n : Int) k HNW.out ⟨by omega, by omega⟩ HL.out).mono ?_; rintro e w2 ⟨rfl, hr, hk⟩
          have hN : SortInv w (w.heap.size + 1 + 1) keys (n + 1) w2 := by
            refine ⟨?_, HJ.out.keeps.trans' hk (fun i hi => .inr (by omega)), hk.heap HJ.out.fault (Nat.lt_irrefl _), ?_⟩
            · have e := HJ.out.eq
              rw [dropI_get HO.out, keysFrom, if_neg HB.out] at e
              rw [← e]; rfl
            · rw [setA_new HNW.out] at hr
              rw [take_get HO.out, keysA_snoc]
              have e1 : (0 : Int) + ((keys.take n).length : Int) = (n : Int) := by simp; omega
              rw [e1]
              have hs := HJ.out.keeps.size
              have hf := lt_of_heap HJ.out.fault
              exact hr.mono (fun b _ hb => by rcases hb with hb | hb; exact hb; show w.heap.size < b; omega)
          have HN := Lib.hid hN
          clear hN hr hk
          go_wp2_with fail
          go_roundw
          case rel => exact ⟨n + 1, by go_num, by omega, HN.out⟩
          case measure => simp [intOf]; omega
      · obtain rfl : n = keys.length := by omega
        have hke : keysQ keys = none := by rw [HQ.out, ← HJ.out.eq, List.drop_length, keysFrom]
        have hrep := HJ.out.rep
        rw [List.take_length] at hrep
        have HP : Hid (∀ w' v', Keeps (fun _ => False) w w' → w'.ownsRow (w.heap.size + 1) 3 1 v' (drainA (keysA keys 0).length (keysA keys 0)).length ((drainA (keysA keys 0).length (keysA keys 0)).map (Value.int .i64)) → ListPost w (sortQ keys) (.returned (.tuple #[v', .agg #[.int .i64 0, .int .i64 0]])) w') := fun w' v' hk ho => ⟨hk, by unfold sortQ; rw [hke]; exact ⟨v', rfl, ownsRow_mono ho (by omega)⟩⟩
        have HR := Lib.hid hrep
        have hf := lt_of_heap HJ.out.fault
        clear hke hrep
        go_wp2_with fail
        refine (drain_any _ _ _ _ _ HR.out (by rw [length_keysA]; omega)).mono ?_; rintro e w2 ⟨v', rfl, hown, hk2⟩
        have hb2 : w2.heap[w.heap.size]? = some (.cells #[.int .i64 0, .int .i64 0] 25 (0, 0)) := hk2.heap HJ.out.fault (Nat.lt_irrefl _)
        have f0' : w2.cell? ⟨w.heap.size, 0, none⟩ = some (.int .i64 0) := by rw [cell_of_blk hb2]; rfl
        have f1' : w2.cell? ⟨w.heap.size, 1, none⟩ = some (.int .i64 0) := by rw [cell_of_blk hb2]; rfl
        have g0' : w2.frozen? ⟨w.heap.size, 0, none⟩ = false := frozen_of_blk hb2
        have g1' : w2.frozen? ⟨w.heap.size, 1, none⟩ = false := frozen_of_blk hb2
        have K2 := Lib.hid (HJ.out.keeps.trans' hk2 (fun i hi => .inr (by omega)))
        have KB2 := Lib.hid (pair_set hb2 (.int .i64 0) (.int .i64 0))
        have HO := Lib.hid (ownsRow_mono hown (show w.heap.size + 1 ≤ _ by omega))
        clear hown hk2 hb2
        go_wp2_with fail
        refine bodyPost_ret (results_tmp_cell _ _ w.heap.size 25 _ _ _ rfl rfl KB2.out Try.underlying25 rfl (by kernel_rfl)) rfl ?_
        refine HP.out _ _ (K2.out.trans' (keeps_pair w.heap.size _ _) (fun i hi => .inr (by omega))) ?_
        exact (keeps_pair w.heap.size _ _).ownsRow HO.out (fun k hk hb => by have := (HO.out.lt k hk).1; omega)

end Go.Proofs.Ytlghadoejmnllaa
