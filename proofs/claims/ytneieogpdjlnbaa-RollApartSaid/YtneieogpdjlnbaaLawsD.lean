/- The walks of layer 5's laws RollSums, RollApart, RollJoins. Conditions: none beyond how the arguments lie in memory. -/
import Derived.Test.YtneieogpdjlnbaaKitB
import Derived.Test.YtneieogpdjlnbaaLawsA
set_option linter.unusedVariables false
set_option linter.unusedSimpArgs false
namespace Go.Proofs.Ytneieogpdjlnbaa
open Go.RowKit Go.Proofs.YtneieogpdjlnbaaW.PrintWords

set_option maxHeartbeats 800000 in
theorem sums_walk (A : Option Addr) (cap : Nat) (xs : List Int) (s o i : Int) (w : World) (hr : RdB w w.heap.size A xs) (hlen : xs.length ≤ 3000)
    (hs0 : 0 ≤ s) (hs1 : s < 4294967296) (ho0 : 0 ≤ o) (ho1 : o ≤ 255) (hi0 : 0 ≤ i) (hi1 : i ≤ 255) :
    Calls Try.prog 3 #[.slice A xs.length cap, .int .u32 s, .int .u8 o, .int .u8 i] w fun e w' => e = .returned (.bool true) ∧ Below w.heap.size w w' := by
  have HR := Lib.hid hr
  clear hr
  go_enter Try.func3, Try.ntmps3
  go_wp2_with fail
  refine (lent_any _ _ _ xs _ HR.out (by omega)).mono ?_
  rintro e w1 ⟨⟨rfl, hL⟩, hB⟩
  have HL := Lib.hid hL
  have HB := Lib.hid hB
  have HR1 := Lib.hid (HR.out.below hB)
  have HR0 := Lib.hid (hL.rd0 HR.out.1 (by omega)).rdB
  clear hL hB
  go_wp2_with fail
  refine (weight_any _ _ hi0 hi1).mono ?_
  rintro e w2 ⟨rfl, rfl⟩
  go_wp2_with fail
  refine (rweight_any _ _ hi0 hi1).mono ?_
  rintro e w2 ⟨rfl, rfl⟩
  go_wp2_with fail
  refine (sum_any _ _ _ _ _ HR0.out).mono ?_
  rintro e w2 ⟨rfl, rfl⟩
  go_wp2_with fail
  refine (rsum_any _ _ _ _ _ HR1.out).mono ?_
  rintro e w2 ⟨rfl, rfl⟩
  go_wp2_with fail
  refine (roll_any _ _ _ _ hs0 hs1 ho0 ho1 hi0 hi1).mono ?_
  rintro e w2 ⟨rfl, rfl⟩
  go_wp2_with fail
  refine (rroll_any _ _ _ _ hs0 hs1 ho0 ho1 hi0 hi1).mono ?_
  rintro e w2 ⟨rfl, rfl⟩
  go_wp2_with fail
  refine (kept_any _ _ _ _ xs _ HL.out HR1.out (by omega)).mono ?_
  rintro e w2 ⟨rfl, hB2⟩
  have HB2 := Lib.hid (HB.out.trans (hB2.mono HB.out.size))
  clear hB2
  go_wp2_with fail
  refine (awake5_any _).mono ?_
  rintro e w3 ⟨rfl, hB3⟩
  have HB3 := Lib.hid (HB2.out.trans (hB3.mono HB2.out.size))
  clear hB3
  go_wp2_with fail
  go_ret
  exact ⟨rfl, HB3.out⟩
set_option maxHeartbeats 400000 in
theorem sums_big (A : Option Addr) (len cap : Nat) (s o i : Int) (w : World) (h : 3000 < len) :
    Calls Try.prog 3 #[.slice A len cap, .int .u32 s, .int .u8 o, .int .u8 i] w fun e w' => e = .returned (.bool true) ∧ Below w.heap.size w w' := by
  go_enter Try.func3, Try.ntmps3
  go_wp2_with fail
  go_ret
  exact ⟨rfl, Below.refl _ _⟩
theorem wf_u8 {x : Int} (h : (Lit.int .u8 x).wf = true) : 0 ≤ x ∧ x ≤ 255 := by
  simp [Lit.wf, IntKind.min, IntKind.max, IntKind.signed, IntKind.bits] at h
  exact ⟨by omega, by omega⟩
theorem wf_u32 {x : Int} (h : (Lit.int .u32 x).wf = true) : 0 ≤ x ∧ x < 4294967296 := by
  simp [Lit.wf, IntKind.min, IntKind.max, IntKind.signed, IntKind.bits] at h
  exact ⟨by omega, by omega⟩
theorem RollSums_walk (a0 : Option Addr) (len0 cap0 : Nat) (z0 : List Int) (a1 a2 a3 : Int) (w : World) (w0 : IsRow .u8 w a0 len0 cap0 z0) (w1 : (Lit.int .u32 a1).wf = true) (w2 : (Lit.int .u8 a2).wf = true) (w3 : (Lit.int .u8 a3).wf = true) :
    Calls Try.prog 3 #[.slice a0 len0 cap0, .int .u32 a1, .int .u8 a2, .int .u8 a3] w fun e w' => e = .returned (.bool true) ∧ Below w.heap.size w w' := by
  by_cases h : 3000 < len0
  · exact sums_big _ _ _ _ _ _ _ h
  · obtain ⟨xs, rfl, hc, hr⟩ := w0.rd (by omega)
    exact sums_walk _ _ _ _ _ _ _ hr (by omega) (wf_u32 w1).1 (wf_u32 w1).2 (wf_u8 w2).1 (wf_u8 w2).2 (wf_u8 w3).1 (wf_u8 w3).2

/-! ### RollJoins -/
set_option maxHeartbeats 800000 in
theorem joins_walk (A A' : Option Addr) (cap cap' : Nat) (xs ys : List Int) (w : World) (hx : RdB w w.heap.size A xs) (hy : RdB w w.heap.size A' ys) (hlx : xs.length ≤ 500) (hly : ys.length ≤ 500) :
    Calls Try.prog 6 #[.slice A xs.length cap, .slice A' ys.length cap'] w fun e w' => e = .returned (.bool true) ∧ Below w.heap.size w w' := by
  have HX := Lib.hid hx
  have HY := Lib.hid hy
  clear hx hy
  go_enter Try.func6, Try.ntmps6
  go_wp2_with fail
  refine (awake5_any _).mono ?_
  rintro e w1 ⟨rfl, hB⟩
  have HB := Lib.hid hB
  have HX1 := Lib.hid (HX.out.below hB)
  have HY1 := Lib.hid (HY.out.below hB)
  clear hB
  go_wp2_with fail
  refine (sum_any _ _ _ _ _ HX1.out).mono ?_
  rintro e w2 ⟨rfl, rfl⟩
  have hsr := sumB_range xs
  obtain ⟨s, hs⟩ : ∃ s, sumB xs = s := ⟨_, rfl⟩
  rw [hs] at hsr ⊢
  have HS := Lib.hid hs
  have HSR := Lib.hid hsr
  clear hs hsr
  go_wp2_with fail
  go_loop [6, 7] (fun v i => ∃ k : Nat, k ≤ ys.length ∧ i = .int .i64 k ∧ v = .int .u32 (mul3 s k)) (fun _ i => ys.length - (intOf i).toNat)
  case atStart => exact ⟨0, by omega, rfl, rfl⟩
  case round =>
    obtain ⟨k, hk, rfl, rfl⟩ := hrel
    obtain ⟨m0, m1⟩ := mul3_range s HSR.out k
    by_cases hlt : k < ys.length
    · obtain ⟨q, hq⟩ : ∃ q, mul3 s k = q := ⟨_, rfl⟩
      rw [hq] at m0 m1 ⊢
      have hq2 : mul3 s (k + 1) = (3 * q) % 4294967296 := by rw [← hq]; rfl
      have HQ := Lib.hid hq2
      clear hq hq2
      go_wp2
      go_round
      case rel => exact ⟨k + 1, by omega, by go_num, by rw [HQ.out]⟩
      case measure => simp [intOf]; omega
    · obtain rfl : k = ys.length := by omega
      obtain ⟨q, hq⟩ : ∃ q, mul3 s ys.length = q := ⟨_, rfl⟩
      have hj := sum_joins xs ys
      rw [HS.out] at hj
      rw [hq] at m0 m1 hj ⊢
      have HJ := Lib.hid hj
      clear hq hj
      go_wp2_with fail
      refine (copy_any _ _ _ xs _ HX1.out).mono ?_
      rintro e w2 ⟨⟨v, rfl, hown⟩, hB2⟩
      have HO := Lib.hid (hown.mono (S' := (w.heap.size ≤ ·)) (fun k hk _ => Nat.le_trans HB.out.size hk))
      have HY2 := Lib.hid (HY1.out.rdS.rdB.below hB2)
      have HB2 := Lib.hid (HB.out.trans (hB2.mono HB.out.size))
      clear hown hB2
      go_wp2_with (at_builtin; refine wpList_append_bytes_g _ (by rfl) _ _ rfl (w.heap.size ≤ ·) v xs ys rfl HO.out _ A' cap' rfl HY2.out (by omega) HB2.out.size ?_; intro v1 w3 ho hg hat; have HO1 := Lib.hid ho; have hb3 := HB2.out.grown hg HB2.out.size HO.out.base; have HB3 := Lib.hid hb3; clear ho hg hat hb3)
      obtain ⟨A1, c1, rfl, hc1, hr1⟩ := HO1.out.rd (by rw [List.length_append]; omega)
      refine (sum_any _ _ _ _ _ hr1.rdB).mono ?_
      rintro e w4 ⟨rfl, rfl⟩
      rw [HJ.out]
      clear hr1
      go_wp2_with fail
      refine (sum_any _ _ _ _ _ (HY.out.below HB3.out)).mono ?_
      rintro e w4 ⟨rfl, rfl⟩
      go_wp2_with fail
      go_ret
      exact ⟨by simp, HB3.out⟩

set_option maxHeartbeats 400000 in
theorem joins_big (A A' : Option Addr) (n m cap cap' : Nat) (w : World) (h : 500 < n ∨ 500 < m) :
    Calls Try.prog 6 #[.slice A n cap, .slice A' m cap'] w fun e w' => e = .returned (.bool true) ∧ Below w.heap.size w w' := by
  by_cases hn : 500 < n
  · have hI : decide ((500 : Int) < n) = true := by simp; omega
    go_enter Try.func6, Try.ntmps6
    go_wp2_with fail
    refine (awake5_any _).mono ?_
    rintro e w1 ⟨rfl, hB⟩
    have HB := Lib.hid hB
    clear hB
    go_wp2_with fail
    go_ret
    exact ⟨rfl, HB.out⟩
  · have hI : decide ((500 : Int) < n) = false := by simp; omega
    have hm : 500 < m := by omega
    go_enter Try.func6, Try.ntmps6
    go_wp2_with fail
    refine (awake5_any _).mono ?_
    rintro e w1 ⟨rfl, hB⟩
    have HB := Lib.hid hB
    clear hB
    go_wp2_with fail
    go_ret
    exact ⟨rfl, HB.out⟩
theorem RollJoins_walk (a0 : Option Addr) (len0 cap0 : Nat) (z0 : List Int) (a1 : Option Addr) (len1 cap1 : Nat) (z1 : List Int) (w : World) (w0 : IsRow .u8 w a0 len0 cap0 z0) (w1 : IsRow .u8 w a1 len1 cap1 z1) :
    Calls Try.prog 6 #[.slice a0 len0 cap0, .slice a1 len1 cap1] w fun e w' => e = .returned (.bool true) ∧ Below w.heap.size w w' := by
  by_cases h : 500 < len0 ∨ 500 < len1
  · exact joins_big _ _ _ _ _ _ _ h
  · obtain ⟨xs, rfl, hc, hr⟩ := w0.rd (by omega)
    obtain ⟨ys, rfl, hc', hr'⟩ := w1.rd (by omega)
    exact joins_walk _ _ _ _ _ _ _ hr hr' (by omega) (by omega)
end Go.Proofs.Ytneieogpdjlnbaa
