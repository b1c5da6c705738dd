/- novelty.covered. -/
import Derived.Test.YtcfcmmajlkkabaaTaskA
import Derived.Test.YtcfcmmajlkkabaaSteps
import Derived.Test.YtcfcmmajlkkabaaSort
import Derived.Test.YtcfcmmajlkkabaaToGo
namespace Go.Proofs.Ytcfcmmajlkkabaa
open Go.RowKit

/-- A slice of words that reads as l. -/
def Wds (w : World) (v : Value) (l : List Nat) : Prop := Sl w v l.length (l.map encW)
theorem Wds.keeps0 {w w' : World} {v : Value} {l : List Nat} (h : Wds w v l) (hk : Keeps (fun _ => False) w w') : Wds w' v l := Sl.keeps0 h hk

def CovPost (s : Nat) (seen : List Nat) (n ch : Nat) (w : World) (e : Ending) (w' : World) : Prop := e = .returned (.bool (covN s seen n ch)) ∧ Keeps (fun _ => False) w w' ∧ w.drawn ≤ w'.drawn

theorem cov_none {s : Nat} {seen : List Nat} {n ch : Nat} (h : ∀ x ∈ seen, (andN s x &&& ch == 0) = false) : covN s seen n ch = false := by
  have hf : (seen.find? fun x => andN s x &&& ch == 0) = none := by
    rw [List.find?_eq_none]; intro x hx; simp [h x hx]
  cases n with
  | zero => unfold covN; rw [hf]; rfl
  | succ n => unfold covN; rw [hf]
theorem cov_find {s : Nat} {seen : List Nat} {ch k x : Nat} (hx : seen[k]? = some x) (hc : (andN s x &&& ch == 0) = true) (h : ∀ y ∈ seen.take k, (andN s y &&& ch == 0) = false) : (seen.find? fun x => andN s x &&& ch == 0) = some x := by
  have hl := (List.getElem?_eq_some_iff.1 hx).1
  have e : seen = seen.take k ++ x :: seen.drop (k + 1) := by
    conv => lhs; rw [← List.take_append_drop k seen]
    rw [List.drop_eq_getElem_cons hl, (List.getElem?_eq_some_iff.1 hx).2]
  rw [e, List.find?_append]
  have hn : (seen.take k).find? (fun x => andN s x &&& ch == 0) = none := by
    rw [List.find?_eq_none]; intro y hy; simp [h y hy]
  rw [hn, List.find?_cons, hc]; rfl

set_option maxRecDepth 100000 in
set_option maxHeartbeats 2000000 in
theorem covered_any (s : Nat) (hs : s < 4294967296) (seen : List Nat) (hseen : ∀ x ∈ seen, x < 4294967296) : ∀ (n : Nat) (w : World) (v : Value) (ch : Nat), ch < 4294967296 → n ≤ 1000 → Wds w v seen →
    Calls Try.prog 76 #[.int .u32 (s : Int), v, .int .u32 (ch : Int), .int .i64 (n : Int)] w (CovPost s seen n ch w) := by
  intro n
  induction n with
  | zero =>
    intro w v ch hch hn1 hv
    show Calls Try.prog 76 #[.int .u32 (s : Int), v, .int .u32 (ch : Int), .int .i64 0] w _
    obtain ⟨av, cv, hav, hm⟩ := Sl.formN hv
    have CV := Lib.hid (Sl.cellN hv hav)
    have HSEEN := Lib.hid hseen
    subst hav
    clear hv hseen
    go_enter Try.func76, Try.ntmps76
    go_wp2_with fail
    go_loop [16] (fun i => ∃ k : Nat, k ≤ seen.length ∧ i = .int .i64 (k : Int) ∧ ∀ y ∈ seen.take k, (andN s y &&& ch == 0) = false) (fun i => seen.length - (intOf i).toNat)
    case atStart => exact ⟨0, Nat.zero_le _, rfl, by simp⟩
    case round =>
      obtain ⟨k, hk, rfl, hall⟩ := hrel
      have HALL := Lib.hid hall; clear hall
      by_cases hlt : k < seen.length
      · obtain ⟨bv, ov, rfl, hcell⟩ := CV.out (by omega)
        obtain ⟨x, hx⟩ : ∃ x, seen[k]? = some x := ⟨_, List.getElem?_eq_getElem hlt⟩
        have hcx := hcell k (encW x) (by rw [List.getElem?_map, hx]; rfl)
        unfold encW at hcx
        have hx32 := HSEEN.out x (List.mem_of_getElem? hx)
        have hA := u32_andNot hs hx32
        have hB := (u32_bits (a := andN s x) (b := ch) (andN_lt (m := 32) hs) hch).1
        have HX := Lib.hid hx
        clear hcell hx
        cases hc : (andN s x &&& ch == 0) with
        | false =>
          have hq : (((andN s x &&& ch : Nat) : Int) != 0) = true := by
            rw [beq_eq_false_iff_ne] at hc; simp; omega
          have HC := Lib.hid hc; clear hc
          go_wp2_with fail
          go_round
          case rel => exact ⟨k + 1, by omega, by go_num, fun y hy => by
            rw [take_getS HX.out] at hy
            rcases List.mem_append.1 hy with hy | hy
            · exact HALL.out y hy
            · simp at hy; subst hy; exact HC.out⟩
          case measure => simp [intOf]; omega
        | true =>
          have hq : (((andN s x &&& ch : Nat) : Int) != 0) = false := by
            rw [beq_iff_eq] at hc; rw [hc]; rfl
          have HR := Lib.hid (show covN s seen 0 ch = true by unfold covN; rw [cov_find HX.out hc HALL.out]; rfl)
          clear hc
          go_wp2_with fail
          go_ret
          exact ⟨congrArg (fun b => Ending.returned (Value.bool b)) HR.out.symm, Keeps.refl _ _, Nat.le_refl _⟩
      · have HR := Lib.hid (show covN s seen 0 ch = false from cov_none (by
          have h := HALL.out
          rwa [List.take_of_length_le (by omega)] at h))
        go_wp2_with fail
        go_ret
        exact ⟨congrArg (fun b => Ending.returned (Value.bool b)) HR.out.symm, Keeps.refl _ _, Nat.le_refl _⟩
  | succ n ih =>
    intro w v ch hch hn1 hv
    obtain ⟨av, cv, hav, hm⟩ := Sl.formN hv
    have CV := Lib.hid (Sl.cellN hv hav)
    have HV := Lib.hid hv
    have HSEEN := Lib.hid hseen
    have IH := Lib.hid ih
    subst hav
    clear hv hseen ih
    go_enter Try.func76, Try.ntmps76
    go_wp2_with fail
    go_loop [16] (fun i => ∃ k : Nat, k ≤ seen.length ∧ i = .int .i64 (k : Int) ∧ ∀ y ∈ seen.take k, (andN s y &&& ch == 0) = false) (fun i => seen.length - (intOf i).toNat)
    case atStart => exact ⟨0, Nat.zero_le _, rfl, by simp⟩
    case round =>
      obtain ⟨k, hk, rfl, hall⟩ := hrel
      have HALL := Lib.hid hall; clear hall
      by_cases hlt : k < seen.length
      · obtain ⟨bv, ov, rfl, hcell⟩ := CV.out (by omega)
        obtain ⟨x, hx⟩ : ∃ x, seen[k]? = some x := ⟨_, List.getElem?_eq_getElem hlt⟩
        have hcx := hcell k (encW x) (by rw [List.getElem?_map, hx]; rfl)
        unfold encW at hcx
        have hx32 := HSEEN.out x (List.mem_of_getElem? hx)
        have hA := u32_andNot hs hx32
        have hB := (u32_bits (a := andN s x) (b := ch) (andN_lt (m := 32) hs) hch).1
        have HX := Lib.hid hx
        clear hcell hx
        cases hc : (andN s x &&& ch == 0) with
        | false =>
          have hq : (((andN s x &&& ch : Nat) : Int) != 0) = true := by
            rw [beq_eq_false_iff_ne] at hc; simp; omega
          have HC := Lib.hid hc; clear hc
          go_wp2_with fail
          go_round
          case rel => exact ⟨k + 1, by omega, by go_num, fun y hy => by
            rw [take_getS HX.out] at hy
            rcases List.mem_append.1 hy with hy | hy
            · exact HALL.out y hy
            · simp at hy; subst hy; exact HC.out⟩
          case measure => simp [intOf]; omega
        | true =>
          have hq : (((andN s x &&& ch : Nat) : Int) != 0) = false := by
            rw [beq_iff_eq] at hc; rw [hc]; rfl
          have HR := Lib.hid (show covN s seen (n + 1) ch = (facts (andN s x)).all (fun p => covN s seen n (ch ||| 2 ^ p.toNat)) by rw [covN, cov_find HX.out hc HALL.out])
          have HF32 := Lib.hid (show ∀ p ∈ facts (andN s x), 0 ≤ p ∧ p < 32 from fun p hp => by
            obtain ⟨q, rfl, h1, _⟩ := mem_facts.1 hp; omega)
          clear hc
          go_wp2_with fail
          refine (facts_any _ (andN s x)).mono ?_; rintro e w1 ⟨vf, rfl, hown, hk1, hd1⟩
          have HI := Lib.hid (Ints.of_own hown)
          obtain ⟨af, cf, hvf⟩ := ownsRow_form1 hown
          subst hvf
          have hfm := HI.out.form
          have CF := Lib.hid (HI.out.cell rfl)
          have K1 := Lib.hid hk1
          obtain ⟨_, _, _, hfl⟩ := hfm
          clear hown hk1 hq hA hB hcx
          generalize hL : facts (andN s x) = fl at HR HF32 HI CF hfl ⊢
          clear hL
          go_wp2_with fail
          go_loopw [32] (fun i wr => ∃ j : Nat, j ≤ fl.length ∧ i = .int .i64 (j : Int) ∧ (∀ p ∈ fl.take j, covN s seen n (ch ||| 2 ^ p.toNat) = true) ∧ Keeps (fun _ => False) w1 wr ∧ w1.drawn ≤ wr.drawn) (fun i _ => fl.length - (intOf i).toNat)
          case atStart => exact ⟨0, Nat.zero_le _, rfl, by simp, Keeps.refl _ _, Nat.le_refl _⟩
          case round =>
            obtain ⟨j, hj, rfl, hall, hkw, hd⟩ := hrel
            have HA2 := Lib.hid hall; have KW := Lib.hid hkw
            clear hall hkw
            by_cases hjl : j < fl.length
            · obtain ⟨bf, of, rfl, hcell⟩ := CF.out (by omega)
              obtain ⟨p, hp⟩ : ∃ p, fl[j]? = some p := ⟨_, List.getElem?_eq_getElem hjl⟩
              have hpc := KW.out.cell (hcell j p hp) (fun h => h)
              obtain ⟨hp0, hp32⟩ := HF32.out p (List.mem_of_getElem? hp)
              have hor := or_pow (u := ch) (p := p.toNat) hch (by omega)
              have hch2 : ch ||| 2 ^ p.toNat < 4294967296 := Nat.or_lt_two_pow (n := 32) hch (Nat.pow_lt_pow_right (by decide) (by omega))
              have HP := Lib.hid hp
              have HVW := Lib.hid (show Wds wr (.slice (some ⟨bv, ov, none⟩) seen.length cv) seen from (HV.out.keeps0 K1.out).keeps0 KW.out)
              clear hcell hp
              go_wp2_with fail
              refine (IH.out wr _ (ch ||| 2 ^ p.toNat) hch2 (by omega) HVW.out).mono ?_; rintro e w2 ⟨rfl, hk2, hd2⟩
              have K2 := Lib.hid (KW.out.trans hk2)
              have hd3 := Nat.le_trans hd hd2
              clear hk2 hor
              cases hcv : covN s seen n (ch ||| 2 ^ p.toNat) with
              | false =>
                have HR2 := Lib.hid (show covN s seen (n + 1) ch = false by rw [HR.out, List.all_eq_false]; exact ⟨p, List.mem_of_getElem? HP.out, by rw [hcv]; simp⟩)
                clear hcv
                go_wp2_with fail
                go_ret
                exact ⟨congrArg (fun b => Ending.returned (Value.bool b)) HR2.out.symm, K1.out.trans K2.out, Nat.le_trans hd1 hd3⟩
              | true =>
                have HCV := Lib.hid hcv
                clear hcv
                go_wp2_with fail
                go_roundw
                case rel => exact ⟨j + 1, by omega, by go_num, fun q hq => by
                  rw [take_getS HP.out] at hq
                  rcases List.mem_append.1 hq with hq | hq
                  · exact HA2.out q hq
                  · simp at hq; subst hq; exact HCV.out, K2.out, hd3⟩
                case measure => simp [intOf]; omega
            · have HR2 := Lib.hid (show covN s seen (n + 1) ch = true by
                rw [HR.out, List.all_eq_true]
                have h := HA2.out
                rwa [List.take_of_length_le (by omega)] at h)
              go_wp2_with fail
              go_ret
              exact ⟨congrArg (fun b => Ending.returned (Value.bool b)) HR2.out.symm, K1.out.trans KW.out, Nat.le_trans hd1 hd⟩
      · have HR := Lib.hid (show covN s seen (n + 1) ch = false from cov_none (by
          have h := HALL.out
          rwa [List.take_of_length_le (by omega)] at h))
        go_wp2_with fail
        go_ret
        exact ⟨congrArg (fun b => Ending.returned (Value.bool b)) HR.out.symm, Keeps.refl _ _, Nat.le_refl _⟩

end Go.Proofs.Ytcfcmmajlkkabaa
