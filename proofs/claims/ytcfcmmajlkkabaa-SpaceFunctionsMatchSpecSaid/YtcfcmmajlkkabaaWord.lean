/- Words of facts: space.Word, space.Facts, the reference's Word. -/
import Derived.Test.YtcfcmmajlkkabaaKitA
import Derived.Test.YtcfcmmajlkkabaaSetA
namespace Go.Proofs.Ytcfcmmajlkkabaa
open Go.RowKit

theorem u32_bits {a b : Nat} (ha : a < 4294967296) (hb : b < 4294967296) : bits .and .u32 (a : Int) (b : Int) = ((a &&& b : Nat) : Int) ∧ bits .or .u32 (a : Int) (b : Int) = ((a ||| b : Nat) : Int) :=
  bits_nat .u32 32 (by decide) (fun n h0 h1 => by rw [IntKind.wrap_u32]; omega) a b (by omega) (by omega)

theorem wd_lt32 {l : List Int} {n : Int} (hn : n ≤ 32) (h : isSetB l n = true) : wd l < 4294967296 :=
  wd_lt (n := 32) (fun x hx => by have := (isSet_iff.1 h).1 x hx; omega)

theorem pow_cast {p : Nat} (hp : p < 32) : (2 : Int) ^ p % 4294967296 = ((2 ^ p : Nat) : Int) := by
  have h : (2 : Nat) ^ p < 2 ^ 32 := Nat.pow_lt_pow_right (by decide) hp
  have e : ((2 : Int) ^ p) = ((2 ^ p : Nat) : Int) := by simp
  rw [e]
  have h' : (2 : Nat) ^ p < 4294967296 := h
  generalize (2 : Nat) ^ p = q at h' ⊢
  omega

theorem or_pow {u p : Nat} (hu : u < 4294967296) (hp : p < 32) : bits .or .u32 (u : Int) (2 ^ p % 4294967296) = ((u ||| 2 ^ p : Nat) : Int) := by
  rw [pow_cast hp]
  exact (u32_bits hu (by have := Nat.pow_lt_pow_right (a := 2) (by decide) hp; omega)).2

theorem wd_append (a b : List Int) : wd (a ++ b) = wd b ||| wd a := by
  induction a with
  | nil => simp [wd]
  | cons x r ih => rw [List.cons_append, wd, ih, wd, Nat.or_assoc]

theorem wd_reverse (l : List Int) : wd l.reverse = wd l := by
  induction l with
  | nil => rfl
  | cons x r ih => rw [List.reverse_cons, wd_append, ih, wd]; simp [wd, Nat.or_comm]

theorem wd_take_lt {l : List Int} (h : ∀ x ∈ l, 0 ≤ x ∧ x < 32) (k : Nat) : wd (l.take k) < 4294967296 :=
  wd_lt (n := 32) (fun x hx => h x (List.mem_of_mem_take hx))

set_option maxHeartbeats 1000000 in
theorem word_any (w : World) (v : Value) (l : List Int) (h : Ints w v l) (hl : ∀ x ∈ l, 0 ≤ x ∧ x < 32) :
    Calls Try.prog 65 #[v] w fun e w' => e = .returned (.int .u32 (wd l : Nat)) ∧ w = w' := by
  obtain ⟨ao, ca, hv, ma⟩ := h.form
  have CA := Lib.hid (h.cell hv)
  have HL := Lib.hid hl
  subst hv
  clear h hl
  go_enter Try.func65, Try.ntmps65
  go_wp2_with fail
  go_loop [3, 8] (fun u i => ∃ k : Nat, k ≤ l.length ∧ i = .int .i64 (k : Int) ∧ u = .int .u32 (wd (l.take k) : Nat)) (fun _ i => l.length - (intOf i).toNat)
  case atStart => exact ⟨0, Nat.zero_le _, rfl, rfl⟩
  case round =>
    obtain ⟨k, hk, rfl, rfl⟩ := hrel
    by_cases hlt : k < l.length
    · obtain ⟨ba, oa, rfl, ha'⟩ := CA.out (by omega)
      obtain ⟨x, hx⟩ : ∃ x, l[k]? = some x := ⟨_, List.getElem?_eq_getElem hlt⟩
      have ha1 := ha' k _ hx
      have hb := HL.out x (List.mem_of_getElem? hx)
      have e2 : wd (l.take (k + 1)) = wd (l.take k) ||| 2 ^ x.toNat := by
        rw [take_getS hx, wd_append, Nat.or_comm]; simp [wd]
      have e3 := or_pow (wd_take_lt HL.out k) (by omega : x.toNat < 32)
      rw [← e2] at e3
      have HE := Lib.hid e3
      have hb0 := hb.1
      clear ha' hx e2 e3
      go_wp2_with fail
      go_round
      case rel => exact ⟨k + 1, by omega, by go_num, by rw [HE.out]⟩
      case measure => simp [intOf]; omega
    · have hf : Hid (wd (l.take k) = wd l) := by unfold Hid; rw [List.take_of_length_le (by omega)]
      go_wp2_with fail
      go_ret
      exact ⟨congrArg (fun u : Nat => Ending.returned (Value.int .u32 (u : Int))) hf.out, rfl⟩

/-! ### Facts -/
theorem and_one {x k : Nat} : bits .and .u32 ((x : Int) / 2 ^ k) 1 = if x.testBit k then 1 else 0 := by
  have e : ((x : Int) / 2 ^ k) = ((x / 2 ^ k : Nat) : Int) := by simp
  rw [e]
  generalize hy : x / 2 ^ k = y
  have ht : x.testBit k = decide (y % 2 = 1) := by rw [Nat.testBit_eq_decide_div_mod_eq, hy]
  rw [ht]
  have e1 : bits .and .u32 (y : Int) 1 = ((y % 2 : Nat) : Int) := by
    have hm : (y % 4294967296) % 2 = y % 2 := by omega
    have hB : ∀ (a b : BitVec 32), a.toNat = y % 4294967296 → b.toNat = 1 → IntKind.u32.wrap ((a &&& b).toNat : Int) = ((y % 2 : Nat) : Int) := by
      intro a b ha hb
      rw [BitVec.toNat_and, ha, hb, Nat.and_one_is_mod, hm, IntKind.wrap_u32]
      omega
    exact hB (BitVec.ofInt 32 (y : Int)) (BitVec.ofInt 32 1) (by rw [BitVec.ofInt_natCast, BitVec.toNat_ofNat]) (by decide)
  rw [e1]
  by_cases h : y % 2 = 1
  · simp [h]
  · have : y % 2 = 0 := by omega
    simp [this]

theorem own_grown {e : TypeId} {size n : Nat} {xs : List Value} {w2 wr Wa w4 : World} {v : Value} (h : wr.ownsRow w2.heap.size e size v n xs) (hk : Keeps (fun _ => False) w2 wr) (hWa : Keeps (fun _ => False) wr Wa) (hgrow : Wa.grownBy w4 v.ownBlock) : Keeps (fun _ => False) w2 w4 :=
  (hk.trans hWa).trans' ((Keeps.refl (fun k => v.ownBlock = some k) Wa).grown hgrow (fun _ hk => .inl hk)) (fun b hb => .inr (World.ownsRow.lt h b hb).1)

/-- The facts of a word below a bound. -/
def factsTo (x k : Nat) : List Int := ((List.range k).filter fun p => x.testBit p).map fun p : Nat => (p : Int)
theorem factsTo_succ (x k : Nat) : factsTo x (k + 1) = if x.testBit k then factsTo x k ++ [(k : Int)] else factsTo x k := by
  unfold factsTo
  rw [List.range_succ, List.filter_append, List.map_append]
  cases h : x.testBit k <;> simp [h]
theorem factsTo_le (x k : Nat) : (factsTo x k).length ≤ k := by
  unfold factsTo
  rw [List.length_map]
  have := List.length_filter_le (fun p => x.testBit p) (List.range k)
  simpa using this

set_option maxRecDepth 100000 in
theorem facts_any (w : World) (x : Nat) :
    Calls Try.prog 77 #[.int .u32 (x : Int)] w fun e w' => ∃ v, e = .returned v ∧ w'.ownsRow w.heap.size 3 1 v (facts x).length ((facts x).map (Value.int .i64)) ∧ Keeps (fun _ => False) w w' ∧ w.drawn ≤ w'.drawn := by
  obtain ⟨i0, hi0, hz0, hz1, hz2⟩ := info_parts Try.info3
  go_enter Try.func77, Try.ntmps77
  go_wp2_with fail
  go_loopw [3, 5] (fun v i wr => ∃ k : Nat, k ≤ 32 ∧ i = .int .i64 (k : Int) ∧ wr.ownsRow w.heap.size 3 1 v (factsTo x k).length ((factsTo x k).map (Value.int .i64)) ∧ Keeps (fun _ => False) w wr ∧ w.drawn ≤ wr.drawn) (fun _ i _ => 32 - (intOf i).toNat)
  case atStart => exact ⟨0, by omega, rfl, World.ownsRow_nil _ _ _ _, Keeps.refl _ _, Nat.le_refl _⟩
  case round =>
    obtain ⟨k, hk, rfl, hown, hkw, hd⟩ := hrel
    have HO := Lib.hid hown; clear hown
    have KW := Lib.hid hkw; clear hkw
    by_cases hlt : k < 32
    · have hle := factsTo_le x k
      have hsz := KW.out.size
      by_cases ht : x.testBit k = true
      · have hb : (bits .and .u32 ((x : Int) / 2 ^ k) 1 == 1) = true := by rw [and_one, if_pos ht]; rfl
        have HS : Hid (factsTo x (k + 1) = factsTo x k ++ [(k : Int)]) := by unfold Hid; rw [factsTo_succ, if_pos ht]
        clear ht
        obtain ⟨av, cv, hv⟩ := ownsRow_form1 HO.out
        subst hv
        go_wp2_with (at_builtin; refine wpList_append_d rfl _ _ _ rfl w.heap.size 3 i0 _ 1 8 Try.underlying22 hi0 hz0 hz1 hz2 rfl (by omega) _ (factsTo x k).length ((factsTo x k).map (Value.int .i64)) (by rfl) (World.ownsRow.alloc HO.out (.cells #[.int .i64 (k : Int)] 3)) ⟨wr.heap.size, 0, none⟩ 1 1 [.int .i64 (k : Int)] (by rfl) (by rfl) ?hnews ?hone (by omega) (by unfold maxLen; omega) (by omega) (by simp; omega) (wr.heap.size + 1) (by simp) ?_)
        case hnews => exact World.news_of_block (cs := #[.int .i64 (k : Int)]) (t := 3) (fr := (0, 0)) (heap_alloc_new _ _)
        case hone => simp [Value.oneCell']
        intro g cap2 w4 hown hgrow hat hlt4 hd4
        have HN := Lib.hid (show w4.ownsRow w.heap.size 3 1 (.slice (some ⟨g, 0, none⟩) ((factsTo x k).length + 1) cap2) (factsTo x (k + 1)).length ((factsTo x (k + 1)).map (Value.int .i64)) by
          rw [HS.out, List.map_append, List.length_append]; exact hown)
        have HKN := Lib.hid (own_grown HO.out KW.out ((Keeps.refl _ wr).alloc (.cells #[.int .i64 (k : Int)] 3)) hgrow)
        have hd5 : w.drawn ≤ w4.drawn := Nat.le_trans hd hd4
        clear hown hgrow hat hd4
        go_wp2_with fail
        go_roundw
        case rel => exact ⟨k + 1, by omega, by go_num, HN.out, HKN.out, hd5⟩
        case measure => simp [intOf]; omega
      · have hb : (bits .and .u32 ((x : Int) / 2 ^ k) 1 == 1) = false := by rw [and_one, if_neg ht]; rfl
        have HS : Hid (factsTo x (k + 1) = factsTo x k) := by unfold Hid; rw [factsTo_succ, if_neg ht]
        clear ht
        go_wp2_with fail
        go_roundw
        case rel => exact ⟨k + 1, by omega, by go_num, by rw [HS.out]; exact HO.out, KW.out, hd⟩
        case measure => simp [intOf]; omega
    · obtain rfl : k = 32 := by omega
      go_wp2_with fail
      go_ret
      exact ⟨_, rfl, HO.out, KW.out, hd⟩

end Go.Proofs.Ytcfcmmajlkkabaa
