/- The walk of layer 5's law RollAlong. Conditions: none beyond how the arguments lie in memory. -/
import Derived.Test.YtneieogpdjlnbaaLawsA
set_option linter.unusedVariables false
set_option linter.unusedSimpArgs false
namespace Go.Proofs.Ytneieogpdjlnbaa
open Go.RowKit Go.Proofs.YtneieogpdjlnbaaW.PrintWords

theorem last16_take (xs : List Int) (k : Nat) (h : k ≤ xs.length) : last16 (xs.take k) = (xs.take k).drop (k - 16) := by
  unfold last16
  rw [List.length_take, Nat.min_eq_left h]
theorem along_step (xs : List Int) (j : Nat) (h : j + 16 < xs.length) : rollB (sumB (last16 (xs.take (j + 16)))) (xs.getD j 0) (xs.getD (j + 16) 0) = sumB (last16 (xs.take (j + 16 + 1))) := by
  rw [← take_snoc xs (j + 16) h, window_long _ _ (by rw [List.length_take]; omega), List.length_take, show min (j + 16) xs.length - 16 = j from by omega]
  congr 1
  simp [List.getD_eq_getElem?_getD]

set_option maxHeartbeats 800000 in
theorem along_walk (A : Option Addr) (cap : Nat) (xs : List Int) (w : World) (hcap : xs.length ≤ cap) (hr : RdB w w.heap.size A xs) (hlo : 16 ≤ xs.length) (hlen : xs.length ≤ 1000) :
    Calls Try.prog 4 #[.slice A xs.length cap] w fun e w' => e = .returned (.bool true) ∧ Below w.heap.size w w' := by
  obtain ⟨ys, hys⟩ : ∃ ys, xs.take 16 = ys := ⟨_, rfl⟩
  obtain ⟨hcut, hcy, hry⟩ := cutT A cap xs ys 16 (by omega) (by omega) hcap hys
  have HRY := Lib.hid hry
  have HYS := Lib.hid hys
  have HR := Lib.hid hr
  clear hry hys hcy hr
  go_enter Try.func4, Try.ntmps4
  go_wp2_with fail
  refine (awake5_any _).mono ?_
  rintro e w1 ⟨rfl, hB⟩
  have HB := Lib.hid hB
  clear hB
  go_wp2_with fail
  refine (sum_any _ _ _ ys _ (HRY.out _ _ (HR.out.below HB.out))).mono ?_
  rintro e w2 ⟨rfl, rfl⟩
  rw [← HYS.out]
  clear hcut
  go_wp2_with fail
  go_loopw [4, 5] (fun s i wr => ∃ k : Nat, 16 ≤ k ∧ k ≤ xs.length ∧ i = .int .i64 k ∧ s = .int .u32 (sumB (last16 (xs.take k))) ∧ Hid (Below w.heap.size w wr)) (fun _ i _ => xs.length - (intOf i).toNat)
  case atStart => exact ⟨16, by omega, by omega, rfl, by rw [last16_short _ (by rw [List.length_take]; omega)], HB⟩
  case round =>
    obtain ⟨k, hk0, hk, rfl, rfl, HBr⟩ := hrel
    by_cases hlt : k < xs.length
    · obtain ⟨j, hj⟩ : ∃ j, k = j + 16 := ⟨k - 16, by omega⟩
      obtain ⟨ad, rfl, _, hcell⟩ := (HR.out.below HBr.out).2.2 (by omega)
      have hx := hcell j (by omega)
      have hy := hcell k (by omega)
      obtain ⟨hx0, hx1⟩ := HR.out.1.at_ j
      obtain ⟨hy0, hy1⟩ := HR.out.1.at_ k
      have ht : rollB (sumB (last16 (xs.take k))) (xs.getD j 0) (xs.getD k 0) = sumB (last16 (xs.take (k + 1))) := by
        subst hj
        exact along_step xs j hlt
      obtain ⟨s, hs⟩ : ∃ s, sumB (last16 (xs.take k)) = s := ⟨_, rfl⟩
      have hsr := sumB_range (last16 (xs.take k))
      obtain ⟨s', hs'⟩ : ∃ s', sumB (last16 (xs.take (k + 1))) = s' := ⟨_, rfl⟩
      rw [hs, hs'] at ht
      rw [hs] at hsr ⊢
      obtain ⟨hs0, hs1⟩ := hsr
      have HS' := Lib.hid hs'
      obtain ⟨x, hxe⟩ : ∃ x, xs.getD j 0 = x := ⟨_, rfl⟩
      obtain ⟨y, hye⟩ : ∃ y, xs.getD k 0 = y := ⟨_, rfl⟩
      rw [hxe] at hx hx0 hx1 ht
      rw [hye] at hy hy0 hy1 ht
      have HT := Lib.hid ht
      clear hxe hye hcell hs hs' ht
      have hcall : ∀ W, Calls Try.prog 24 #[.int .u32 s, .int .u8 x, .int .u8 y] W fun e w' => e = .returned (.int .u32 s') ∧ w' = W := fun W => by
        have := same' (roll_any s x y W hs0 hs1 hx0 hx1 hy0 hy1)
        rwa [HT.out] at this
      have HC := Lib.hid hcall
      clear hcall
      obtain ⟨zs, hzs⟩ : ∃ zs, last16 (xs.take (k + 1)) = zs := ⟨_, rfl⟩
      obtain ⟨A', cap', hcut, hcz, hrz⟩ := cutM (some ad) cap xs zs ((k : Int) + 1 - 16) ((k : Int) + 1) (by omega) (by omega) (by omega) hcap (by
        rw [← hzs, last16_take _ _ (by omega), show ((k : Int) + 1).toNat = k + 1 from by omega, show ((k : Int) + 1 - 16).toNat = k + 1 - 16 from by omega])
      have HRZ := Lib.hid hrz
      have HZS := Lib.hid hzs
      clear hrz hcz hzs
      have hq1 : IntKind.i64.wrap ((k : Int) - 16) = (j : Int) := by rw [IntKind.wrap_i64]; omega
      have hq2 : (j : Int) < (xs.length : Int) := by omega
      have hq3 : (k : Int) < (xs.length : Int) := by omega
      have HJ := Lib.hid hj
      clear hj
      go_wp2_with fail
      go_quiet ((go_at_call 24; exact Calls.quiet_of_same (HC.out _)))
      clear hq1 hq2
      go_wp2_with fail
      have hB2 := HBr.out.trans ((below_drewN (Below.refl _ wr) nq).mono HBr.out.size)
      have HB2 := Lib.hid hB2
      clear hB2
      refine (sum_any _ _ _ zs _ (HRZ.out _ _ (HR.out.below HB2.out))).mono ?_
      rintro e w2 ⟨rfl, rfl⟩
      rw [HZS.out.symm, HS'.out]
      go_wp2_with fail
      go_roundw
      case rel => exact ⟨k + 1, by omega, by omega, by go_num, by rw [HS'.out], HB2⟩
      case measure => simp [intOf]; omega
    · go_wp2_with fail
      go_ret
      exact ⟨rfl, HBr.out⟩

set_option maxHeartbeats 400000 in
theorem along_off (A : Option Addr) (len cap : Nat) (w : World) (h : len < 16 ∨ 1000 < len) :
    Calls Try.prog 4 #[.slice A len cap] w fun e w' => e = .returned (.bool true) ∧ Below w.heap.size w w' := by
  rcases h with h | h
  · have hI : decide ((len : Int) < 16) = true := by simp; omega
    go_enter Try.func4, Try.ntmps4
    go_wp2_with fail
    refine (awake5_any _).mono ?_
    rintro e w1 ⟨rfl, hB⟩
    have HB := Lib.hid hB
    clear hB
    go_wp2_with fail
    go_ret
    exact ⟨rfl, HB.out⟩
  · have hI : decide ((len : Int) < 16) = false := by simp; omega
    go_enter Try.func4, Try.ntmps4
    go_wp2_with fail
    refine (awake5_any _).mono ?_
    rintro e w1 ⟨rfl, hB⟩
    have HB := Lib.hid hB
    clear hB
    go_wp2_with fail
    go_ret
    exact ⟨rfl, HB.out⟩
theorem RollAlong_walk (a0 : Option Addr) (len0 cap0 : Nat) (z0 : List Int) (w : World) (w0 : IsRow .u8 w a0 len0 cap0 z0) :
    Calls Try.prog 4 #[.slice a0 len0 cap0] w fun e w' => e = .returned (.bool true) ∧ Below w.heap.size w w' := by
  by_cases h : len0 < 16 ∨ 1000 < len0
  · exact along_off _ _ _ _ h
  · obtain ⟨xs, rfl, hc, hr⟩ := w0.rd (by omega)
    exact along_walk _ _ _ _ hc hr (by omega) (by omega)

end Go.Proofs.Ytneieogpdjlnbaa
