/- The walks of the functions of package roll and of its reference that only reckon. Conditions: those that each statement names. -/
import Derived.Test.YtneieogpdjlnbaaBase
set_option linter.unusedVariables false
set_option linter.unusedSimpArgs false
namespace Go.Proofs.Ytneieogpdjlnbaa
open Go.RowKit Go.Proofs.YtneieogpdjlnbaaW.PrintWords

theorem ret_int {k : IntKind} {a b : Int} (h : a = b) : Ending.returned (.int k a) = .returned (.int k b) := by rw [h]

theorem or_one (c : Int) (h0 : 0 ≤ c) (h1 : c ≤ 255) : bits BinOp.or IntKind.u32 (c * 2) 1 = 2 * c + 1 := by
  have h : ∀ k : Fin 256, bits BinOp.or IntKind.u32 ((k.val : Int) * 2) 1 = 2 * (k.val : Int) + 1 := by decide +kernel
  obtain ⟨n, rfl⟩ := Int.eq_ofNat_of_zero_le h0
  exact h ⟨n, by omega⟩
set_option maxHeartbeats 400000 in
theorem weight_any (c : Int) (w : World) (h0 : 0 ≤ c) (h1 : c ≤ 255) : Calls Try.prog 20 #[.int .u8 c] w fun e w' => e = .returned (.int .u32 (wt c)) ∧ w = w' := by
  go_enter Try.func20, Try.ntmps20
  go_wp2
  go_ret
  exact ⟨ret_int (by rw [or_one c h0 h1]; rfl), rfl⟩
set_option maxHeartbeats 400000 in
theorem rweight_any (c : Int) (w : World) (h0 : 0 ≤ c) (h1 : c ≤ 255) : Calls Try.prog 21 #[.int .u8 c] w fun e w' => e = .returned (.int .u32 (wt c)) ∧ w = w' := by
  go_enter Try.func21, Try.ntmps21
  go_wp2
  go_ret
  exact ⟨rfl, rfl⟩

theorem sumB_take (xs : List Int) (k : Nat) (h : k < xs.length) : sumB (xs.take (k + 1)) = (sumB (xs.take k) * 3 + wt (xs.getD k 0)) % 4294967296 := by
  rw [List.take_succ_eq_append_getElem h, sumB_snoc]
  simp [List.getD_eq_getElem?_getD, List.getElem?_eq_getElem h]
theorem IsBytes.at_ {xs : List Int} (h : IsBytes xs) (k : Nat) : 0 ≤ xs.getD k 0 ∧ xs.getD k 0 ≤ 255 := by
  rw [List.getD_eq_getElem?_getD]
  rcases Nat.lt_or_ge k xs.length with hk | hk
  · rw [List.getElem?_eq_getElem hk]
    exact h _ (List.getElem_mem hk)
  · rw [List.getElem?_eq_none hk]
    simp

set_option maxHeartbeats 400000 in
theorem sum_any (B cap : Nat) (A : Option Addr) (xs : List Int) (w : World) (hr : RdB w B A xs) :
    Calls Try.prog 22 #[.slice A xs.length cap] w fun e w' => e = .returned (.int .u32 (sumB xs)) ∧ w = w' := by
  obtain ⟨hb, hl, hc⟩ := hr
  have HC := Lib.hid hc
  clear hc
  go_enter Try.func22, Try.ntmps22
  go_wp2
  go_loop [3, 8] (fun n i => ∃ k : Nat, k ≤ xs.length ∧ i = .int .i64 k ∧ n = .int .u32 (sumB (xs.take k))) (fun _ i => xs.length - (intOf i).toNat)
  case atStart => exact ⟨0, Nat.zero_le _, rfl, rfl⟩
  case round =>
    obtain ⟨k, hk, rfl, rfl⟩ := hrel
    have hs := sumB_range (xs.take k)
    obtain ⟨hs0, hs1⟩ := hs
    by_cases hlt : k < xs.length
    · obtain ⟨ad, rfl, _, hcell⟩ := HC.out (by omega)
      have hx := hcell k hlt
      obtain ⟨hb0, hb1⟩ := hb.at_ k
      have hst := Lib.hid (sumB_take xs k hlt)
      clear hcell
      obtain ⟨u, hu⟩ : ∃ u, u = xs.getD k 0 := ⟨_, rfl⟩
      rw [← hu] at hx hb0 hb1
      have HU := Lib.hid hu
      clear hu
      go_wp2_with (go_at_call 20; refine (weight_any _ _ (by omega) (by omega)).mono ?_; rintro e w' ⟨rfl, rfl⟩)
      go_round
      case rel => exact ⟨k + 1, by omega, by go_num, by rw [hst.out, ← HU.out]; go_num⟩
      case measure => simp [intOf]; omega
    · go_wp2
      go_ret
      exact ⟨ret_int (by rw [List.take_of_length_le (by omega)]), rfl⟩

theorem sum3 (a b : Int) : (3 * a + b) % 4294967296 = (a * 3 + b) % 4294967296 := by rw [Int.mul_comm]
set_option maxHeartbeats 400000 in
theorem rsum_any (B cap : Nat) (A : Option Addr) (xs : List Int) (w : World) (hr : RdB w B A xs) :
    Calls Try.prog 23 #[.slice A xs.length cap] w fun e w' => e = .returned (.int .u32 (sumB xs)) ∧ w = w' := by
  obtain ⟨hb, hl, hc⟩ := hr
  have HC := Lib.hid hc
  clear hc
  go_enter Try.func23, Try.ntmps23
  go_wp2
  go_loop [3, 4] (fun n i => ∃ k : Nat, k ≤ xs.length ∧ i = .int .i64 k ∧ n = .int .u32 (sumB (xs.take k))) (fun _ i => xs.length - (intOf i).toNat)
  case atStart => exact ⟨0, Nat.zero_le _, rfl, rfl⟩
  case round =>
    obtain ⟨k, hk, rfl, rfl⟩ := hrel
    have hs := sumB_range (xs.take k)
    obtain ⟨hs0, hs1⟩ := hs
    by_cases hlt : k < xs.length
    · obtain ⟨ad, rfl, _, hcell⟩ := HC.out (by omega)
      have hx := hcell k hlt
      obtain ⟨hb0, hb1⟩ := hb.at_ k
      have hst := Lib.hid (sumB_take xs k hlt)
      clear hcell
      obtain ⟨u, hu⟩ : ∃ u, u = xs.getD k 0 := ⟨_, rfl⟩
      rw [← hu] at hx hb0 hb1
      have HU := Lib.hid hu
      clear hu
      go_wp2_with (go_at_call 21; refine (rweight_any _ _ (by omega) (by omega)).mono ?_; rintro e w' ⟨rfl, rfl⟩)
      go_round
      case rel => exact ⟨k + 1, by omega, by go_num, by rw [hst.out, ← HU.out, ← sum3]; go_num⟩
      case measure => simp [intOf]; omega
    · go_wp2
      go_ret
      exact ⟨ret_int (by rw [List.take_of_length_le (by omega)]), rfl⟩

set_option maxHeartbeats 400000 in
theorem roll_any (s o i : Int) (w : World) (h0 : 0 ≤ s) (h1 : s < 4294967296) (ho0 : 0 ≤ o) (ho1 : o ≤ 255) (hi0 : 0 ≤ i) (hi1 : i ≤ 255) :
    Calls Try.prog 24 #[.int .u32 s, .int .u8 o, .int .u8 i] w fun e w' => e = .returned (.int .u32 (rollB s o i)) ∧ w = w' := by
  obtain ⟨a0, a1⟩ := wt_range o
  obtain ⟨b0, b1⟩ := wt_range i
  go_enter Try.func24, Try.ntmps24
  go_wp2_with fail
  refine (weight_any _ _ ho0 ho1).mono ?_
  rintro e w' ⟨rfl, rfl⟩
  go_wp2_with fail
  refine (weight_any _ _ hi0 hi1).mono ?_
  rintro e w' ⟨rfl, rfl⟩
  go_wp2_with fail
  go_ret
  exact ⟨ret_int (by unfold rollB; omega), rfl⟩
set_option maxHeartbeats 400000 in
theorem rroll_any (s o i : Int) (w : World) (h0 : 0 ≤ s) (h1 : s < 4294967296) (ho0 : 0 ≤ o) (ho1 : o ≤ 255) (hi0 : 0 ≤ i) (hi1 : i ≤ 255) :
    Calls Try.prog 25 #[.int .u32 s, .int .u8 o, .int .u8 i] w fun e w' => e = .returned (.int .u32 (rollB s o i)) ∧ w = w' := by
  obtain ⟨a0, a1⟩ := wt_range o
  obtain ⟨b0, b1⟩ := wt_range i
  go_enter Try.func25, Try.ntmps25
  go_wp2_with fail
  refine (rweight_any _ _ ho0 ho1).mono ?_
  rintro e w' ⟨rfl, rfl⟩
  go_wp2_with fail
  refine (rweight_any _ _ hi0 hi1).mono ?_
  rintro e w' ⟨rfl, rfl⟩
  go_wp2_with fail
  go_ret
  exact ⟨ret_int (by unfold rollB; omega), rfl⟩

end Go.Proofs.Ytneieogpdjlnbaa
