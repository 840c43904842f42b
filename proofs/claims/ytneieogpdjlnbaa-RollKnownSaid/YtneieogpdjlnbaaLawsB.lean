/- The walks of layer 5's laws RollKnown, RollNone, RollAlong. Conditions: none beyond how the arguments lie in memory. -/
import Derived.Test.YtneieogpdjlnbaaLawsA
set_option linter.unusedVariables false
set_option linter.unusedSimpArgs false
namespace Go.Proofs.Ytneieogpdjlnbaa
open Go.RowKit Go.Proofs.YtneieogpdjlnbaaW.PrintWords

set_option maxHeartbeats 800000 in
theorem known_walk (w : World) : Calls Try.prog 12 #[] w fun e w' => e = .returned (.bool true) ∧ Below w.heap.size w w' := by
  go_enter Try.func12, Try.ntmps12
  go_wp2_with fail
  refine (rnew_any _).mono ?_
  rintro e w1 ⟨rfl, hw1⟩
  have hr1 : Rol w1 w.heap.size 53 [] [] := by rw [hw1]; exact Rol.new w
  have hB1 : Below w.heap.size w w1 := by rw [hw1]; exact (Below.refl _ _).alloc (Nat.le_refl _) _
  clear hw1
  have hz1 : w.heap.size < w1.heap.size := hr1.lt
  have HR1 := Lib.hid hr1
  have HB1 := Lib.hid hB1
  clear hr1 hB1
  go_wp2_with fail
  refine (sum_any 0 0 none [] _ ⟨fun x hx => by simp at hx, by simp, fun hp => by simp at hp⟩).mono ?_
  rintro e w2 ⟨rfl, rfl⟩
  rw [show sumB [] = 0 from rfl]
  go_wp2_with fail
  refine (full_any _ _ _ _ _ HR1.out).mono ?_
  rintro e w2 ⟨rfl, rfl⟩
  rw [show decide (16 ≤ ([] : List Int).length) = false from rfl]
  go_wp2_with fail
  go_loopw [2] (fun i wr => ∃ k : Nat, k ≤ 16 ∧ i = .int .i64 k ∧ Hid (Rol wr w.heap.size 53 (List.replicate k 0) []) ∧ Hid (Below w.heap.size w wr)) (fun i _ => 16 - (intOf i).toNat)
  case atStart => exact ⟨0, by omega, rfl, HR1, HB1⟩
  case round =>
    obtain ⟨k, hk, rfl, HRr, HBr⟩ := hrel
    by_cases hlt : k < 16
    · go_wp2_with fail
      refine (full_any _ _ _ _ _ HRr.out).mono ?_
      rintro e w2 ⟨rfl, rfl⟩
      have e1 : decide (16 ≤ (List.replicate k (0 : Int)).length) = false := by simp; omega
      rw [e1]
      clear e1
      go_wp2_with fail
      refine (push_any _ _ _ _ _ _ (by decide) (by decide) HRr.out).mono ?_
      rintro e w3 ⟨rfl, hr3, ht3⟩
      have hB3 := ht3.below HBr.out (Nat.le_refl _) HBr.out.size
      rw [← List.replicate_succ'] at hr3
      have HR3 := Lib.hid hr3
      have HB3 := Lib.hid hB3
      clear hr3 hB3 ht3
      go_wp2_with fail
      go_roundw
      case rel => exact ⟨k + 1, by omega, by go_num, HR3, HB3⟩
      case measure => simp [intOf]; omega
    · obtain rfl : k = 16 := by omega
      have hmk := mk_zeros 16 (by decide)
      rw [show ((16 : Nat) : Int) = 16 from rfl] at hmk
      go_wp2_with fail
      have hrd : RdB (wr.alloc (.cells (zerosB 16) 5)) (wr.heap.size + 1) (some ⟨wr.heap.size, 0, none⟩) (List.replicate 16 0) := RdB.lit wr _ 5 (IsBytes.zeros 16) (by decide)
      refine (sum_any _ _ _ (List.replicate 16 0) _ hrd).mono ?_
      rintro e w2 ⟨rfl, rfl⟩
      have hr3 := HRr.out.alloc (.cells (zerosB 16) 5)
      have hB3 := HBr.out.alloc HBr.out.size (.cells (zerosB 16) 5)
      have hz3 : w.heap.size < (wr.alloc (.cells (zerosB 16) 5)).heap.size := hr3.lt
      clear hrd hmk
      generalize wr.alloc (.cells (zerosB 16) 5) = w3 at hr3 hB3 hz3 ⊢
      obtain ⟨s, hs⟩ : ∃ s, sumB (List.replicate 16 0) = s := ⟨_, rfl⟩
      have hsr := sumB_range (List.replicate 16 0)
      rw [hs] at hsr ⊢
      have hl16 : sumB (last16 (List.replicate 16 0)) = s := hs
      have hroll : rollB s 0 0 = s := by rw [← hs]; decide
      have HS := Lib.hid hl16
      have HRO := Lib.hid hroll
      have HR3 := Lib.hid hr3
      have HB3 := Lib.hid hB3
      clear hs hl16 hroll hr3 hB3
      obtain ⟨hs0, hs1⟩ := hsr
      go_wp2_with fail
      refine (awake5_any _).mono ?_
      rintro e w4 ⟨rfl, hB4⟩
      have HR4 := Lib.hid (HR3.out.below hB4 hz3)
      have HB4 := Lib.hid (HB3.out.trans (hB4.mono HB3.out.size))
      clear hB4
      go_wp2_with fail
      refine (full_any _ _ _ _ _ HR4.out).mono ?_
      rintro e w5 ⟨rfl, rfl⟩
      rw [show decide (16 ≤ (List.replicate 16 (0 : Int)).length) = true from rfl]
      go_wp2_with fail
      refine (rsumm_any _ _ _ _ _ HR4.out).mono ?_
      rintro e w5 ⟨rfl, rfl⟩
      rw [HS.out]
      go_wp2_with fail
      refine (roll_any _ _ _ _ hs0 hs1 (by decide) (by decide) (by decide) (by decide)).mono ?_
      rintro e w5 ⟨rfl, rfl⟩
      rw [HRO.out]
      go_wp2_with fail
      go_ret
      exact ⟨rfl, HB4.out⟩

theorem two_new (w : World) (X Y : Array Value) (t u : Nat) : (∀ i, ((w.alloc (.cells X t)).alloc (.cells Y u)).cell? ⟨w.heap.size + 1, i, none⟩ = Y[i]?) ∧
    (∀ i, ((w.alloc (.cells X t)).alloc (.cells Y u)).cell? ⟨w.heap.size, i, none⟩ = X[i]?) ∧ Below w.heap.size w ((w.alloc (.cells X t)).alloc (.cells Y u)) := by
  refine ⟨fun i => ?_, fun i => ((Blk.new w t X).alloc _).cell i, ((Below.refl _ w).alloc (Nat.le_refl _) _).alloc (by simp) _⟩
  have h := (Blk.new (w.alloc (.cells X t)) u Y).cell i
  rwa [World.size_alloc] at h
set_option maxHeartbeats 800000 in
theorem none_walk (c : Int) (w : World) : Calls Try.prog 10 #[.int .u8 c] w fun e w' => e = .returned (.bool true) ∧ Below w.heap.size w w' := by
  go_enter Try.func10, Try.ntmps10
  go_wp2_with fail
  obtain ⟨hY, hX, hB⟩ := two_new w #[Value.int IntKind.u8 0, Value.int IntKind.u8 0, Value.int IntKind.u8 0, Value.int IntKind.u8 0, Value.int IntKind.u8 0, Value.int IntKind.u8 0, Value.int IntKind.u8 0, Value.int IntKind.u8 0, Value.int IntKind.u8 0, Value.int IntKind.u8 0, Value.int IntKind.u8 0, Value.int IntKind.u8 0, Value.int IntKind.u8 0, Value.int IntKind.u8 0, Value.int IntKind.u8 0, Value.int IntKind.u8 0, Value.int IntKind.i64 0, Value.int IntKind.u32 0, Value.bool false] #[Value.pointer none, Value.pointer (some { block := w.heap.size, off := 0 })] 53 46
  have h0 := hY 0
  have h1 := hY 1
  have h18 := hX 18
  have HB := Lib.hid hB
  clear hY hX hB
  generalize (w.alloc (.cells #[Value.int IntKind.u8 0, Value.int IntKind.u8 0, Value.int IntKind.u8 0, Value.int IntKind.u8 0, Value.int IntKind.u8 0, Value.int IntKind.u8 0, Value.int IntKind.u8 0, Value.int IntKind.u8 0, Value.int IntKind.u8 0, Value.int IntKind.u8 0, Value.int IntKind.u8 0, Value.int IntKind.u8 0, Value.int IntKind.u8 0, Value.int IntKind.u8 0, Value.int IntKind.u8 0, Value.int IntKind.u8 0, Value.int IntKind.i64 0, Value.int IntKind.u32 0, Value.bool false] 53)).alloc (.cells #[Value.pointer none, Value.pointer (some { block := w.heap.size, off := 0 })] 46) = w1 at h0 h1 h18 HB ⊢
  have H18 : w1.cell? ⟨w.heap.size, 18, none⟩ = some (.bool false) := h18
  have H0 : w1.cell? ⟨w.heap.size + 1, 0, none⟩ = some (.pointer none) := h0
  have H1 : w1.cell? ⟨w.heap.size + 1, 1, none⟩ = some (.pointer (some ⟨w.heap.size, 0, none⟩)) := h1
  clear h0 h1 h18
  go_loop [4] (fun i => ∃ k : Nat, k ≤ 2 ∧ i = .int .i64 k) (fun i => 2 - (intOf i).toNat)
  case atStart => exact ⟨0, by omega, rfl⟩
  case round =>
    obtain ⟨k, hk, rfl⟩ := hrel
    rcases (show k = 0 ∨ k = 1 ∨ k = 2 by omega) with rfl | rfl | rfl
    · go_wp2_with fail
      refine (push_nil _ _).mono ?_
      rintro e w5 ⟨rfl, rfl⟩
      go_wp2_with fail
      refine (rsumm_nil _).mono ?_
      rintro e w5 ⟨rfl, rfl⟩
      go_wp2_with fail
      refine (full_nil _).mono ?_
      rintro e w5 ⟨rfl, rfl⟩
      go_wp2_with fail
      refine (push_nil _ _).mono ?_
      rintro e w5 ⟨rfl, rfl⟩
      go_wp2_with fail
      go_round
      case rel => exact ⟨1, by omega, by go_num⟩
      case measure => simp [intOf]
    · go_wp2_with fail
      refine (push_unmade _ _ _ H18).mono ?_
      rintro e w5 ⟨rfl, rfl⟩
      go_wp2_with fail
      refine (rsumm_unmade _ _ H18).mono ?_
      rintro e w5 ⟨rfl, rfl⟩
      go_wp2_with fail
      refine (full_unmade _ _ H18).mono ?_
      rintro e w5 ⟨rfl, rfl⟩
      go_wp2_with fail
      refine (push_unmade _ _ _ H18).mono ?_
      rintro e w5 ⟨rfl, rfl⟩
      go_wp2_with fail
      go_round
      case rel => exact ⟨2, by omega, by go_num⟩
      case measure => simp [intOf]
    · go_wp2_with fail
      refine (awake5_any _).mono ?_
      rintro e w2 ⟨rfl, hB2⟩
      have HB2 := Lib.hid (HB.out.trans (hB2.mono HB.out.size))
      clear hB2
      go_wp2_with fail
      go_ret
      exact ⟨rfl, HB2.out⟩
theorem RollKnown_walk (w : World) : Calls Try.prog 12 #[] w fun e w' => e = .returned (.bool true) ∧ Below w.heap.size w w' := known_walk w
theorem RollNone_walk (c : Int) (_hw : (Lit.int .u8 c).wf = true) (w : World) : Calls Try.prog 10 #[.int .u8 c] w fun e w' => e = .returned (.bool true) ∧ Below w.heap.size w w' := none_walk c w
end Go.Proofs.Ytneieogpdjlnbaa
