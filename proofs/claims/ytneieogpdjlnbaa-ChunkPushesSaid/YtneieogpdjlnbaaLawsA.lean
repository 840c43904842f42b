/- The walks of layer 5's laws: each returns true and writes nothing that was there. Conditions: none beyond how the arguments lie in memory. -/
import Derived.Test.YtneieogpdjlnbaaRollC
set_option linter.unusedVariables false
set_option linter.unusedSimpArgs false
namespace Go.Proofs.Ytneieogpdjlnbaa
open Go.RowKit Go.Proofs.YtneieogpdjlnbaaW.PrintWords

/-- What a walk is told of a slice of whole numbers that came in. -/
def IsRow (k : IntKind) (w : World) (a : Option Addr) (len cap : Nat) (zs : List Int) : Prop :=
  (a = none ∧ len = 0 ∧ cap = 0 ∧ zs = []) ∨
  ∃ x, a = some x ∧ len ≤ cap ∧ cap ≤ maxLen ∧ zs.length = cap ∧ (∀ i, i < zs.length → w.cell? (x.add i) = some (.int k (zs.getD i 0))) ∧ ∀ n ∈ zs, (Lit.int k n).wf = true

theorem IsRow.len {k : IntKind} {w : World} {a : Option Addr} {len cap : Nat} {zs : List Int} (h : IsRow k w a len cap zs) : len ≤ cap ∧ len ≤ 9223372036854775807 := by
  rcases h with ⟨rfl, rfl, rfl, rfl⟩ | ⟨x, rfl, h1, h2, h3, h4, h5⟩
  · omega
  · unfold maxLen at h2; omega
theorem IsRow.rd {w : World} {a : Option Addr} {len cap : Nat} {zs : List Int} (h : IsRow .u8 w a len cap zs) (hl : len ≤ 140737488355328) : ∃ xs : List Int, len = xs.length ∧ xs.length ≤ cap ∧ RdB w w.heap.size a xs := by
  rcases h with ⟨rfl, rfl, rfl, rfl⟩ | ⟨x, rfl, h1, h2, h3, h4, h5⟩
  · exact ⟨[], rfl, by simp, fun x hx => by simp at hx, by simp, fun hp => by simp at hp⟩
  · have e : (zs.take len).length = len := by rw [List.length_take]; omega
    refine ⟨zs.take len, e.symm, by omega, fun y hy => ?_, by omega, fun hp => ?_⟩
    · have hw := h5 y (List.mem_of_mem_take hy)
      simp [Lit.wf, IntKind.min, IntKind.max, IntKind.signed, IntKind.bits] at hw
      omega
    · rw [e] at hp
      refine ⟨x, rfl, ?_, fun j hj => ?_⟩
      · have := World.block_lt_of_cell? w _ (h4 0 (by omega))
        rwa [block_of_add] at this
      · rw [e] at hj
        rw [h4 j (by omega)]
        simp [List.getD_eq_getElem?_getD, hj]

set_option maxHeartbeats 800000 in
theorem windows_walk (A : Option Addr) (cap : Nat) (xs : List Int) (w : World) (hcap : xs.length ≤ cap) (hr : RdB w w.heap.size A xs) (hlen : xs.length ≤ 1000) :
    Calls Try.prog 8 #[.slice A xs.length cap] w fun e w' => e = .returned (.bool true) ∧ Below w.heap.size w w' := by
  go_enter Try.func8, Try.ntmps8
  go_wp2_with fail
  refine (rnew_any _).mono ?_
  rintro e w1 ⟨rfl, hw1⟩
  have hr1 : Rol w1 w.heap.size 53 [] [] := by rw [hw1]; exact Rol.new w
  have hB1 : Below w.heap.size w w1 := by rw [hw1]; exact (Below.refl _ _).alloc (Nat.le_refl _) _
  clear hw1
  have HR := Lib.hid hr
  have HR1 := Lib.hid hr1
  have HB1 := Lib.hid hB1
  clear hr hr1 hB1
  go_wp2_with fail
  go_loopw [4] (fun i wr => ∃ k : Nat, k ≤ xs.length + 1 ∧ i = .int .i64 k ∧ Hid (Rol wr w.heap.size 53 (xs.take (k - 1)) []) ∧ Hid (Below w.heap.size w wr)) (fun i _ => xs.length + 1 - (intOf i).toNat)
  case atStart => exact ⟨0, by omega, rfl, HR1, HB1⟩
  case round =>
    obtain ⟨k, hk, rfl, HRr, HBr⟩ := hrel
    by_cases hle : k ≤ xs.length
    · obtain ⟨ys, hys⟩ : ∃ ys, xs.take k = ys := ⟨_, rfl⟩
      obtain ⟨hcut, hcy, hry⟩ := cutT A cap xs ys k (by omega) (by omega) hcap (by rw [Int.toNat_natCast]; exact hys)
      have hyl : ys.length = k := by rw [← hys, List.length_take]; omega
      have HRY := Lib.hid (hry _ _ (HR.out.below HBr.out))
      have HCY := Lib.hid hcy
      have HYS := Lib.hid hys
      have HYL := Lib.hid hyl
      clear hry hcy hys hyl
      go_wp2_with fail
      refine (last_any _ _ _ _ _ HRY.out HCY.out).mono ?_
      rintro e w2 ⟨⟨A', cap', rfl, hc', hr'⟩, rfl⟩
      obtain ⟨s, hs⟩ : ∃ s, sumB (last16 ys) = s := ⟨_, rfl⟩
      have HS := Lib.hid hs
      have HR' := Lib.hid hr'
      clear hs hr' hc'
      go_wp2_with fail
      refine (rsum_any _ _ _ _ _ HR'.out).mono ?_
      rintro e w2 ⟨rfl, rfl⟩
      rw [HS.out]
      by_cases h0 : k = 0
      · subst h0
        have hy0 : ys = [] := List.eq_nil_of_length_eq_zero HYL.out
        have HY0 := Lib.hid hy0
        clear hy0
        go_wp2_with fail
        refine (rsumm_any _ _ _ _ _ HRr.out).mono ?_
        rintro e w2 ⟨rfl, rfl⟩
        have e1 : sumB (last16 (xs.take (0 - 1))) = s := by rw [← HS.out, HY0.out]; rfl
        rw [e1]
        clear e1
        go_wp2_with fail
        refine (full_any _ _ _ _ _ HRr.out).mono ?_
        rintro e w2 ⟨rfl, rfl⟩
        have e1 : decide (16 ≤ (xs.take (0 - 1)).length) = false := by simp
        rw [e1]
        clear e1
        go_wp2_with fail
        go_roundw
        case rel => exact ⟨1, by omega, by go_num, HRr, HBr⟩
        case measure => simp [intOf]
      · obtain ⟨j, rfl⟩ : ∃ j, k = j + 1 := ⟨k - 1, by omega⟩
        obtain ⟨ad, rfl, _, hcell⟩ := (HR.out.below HBr.out).2.2 (by omega)
        have hx := hcell j (by omega)
        obtain ⟨hx0, hx1⟩ := HR.out.1.at_ j
        have ht := Lib.hid (take_snoc xs j (by omega))
        obtain ⟨x, hxe⟩ : ∃ x, xs.getD j 0 = x := ⟨_, rfl⟩
        rw [hxe] at hx hx0 hx1 ht
        clear hxe hcell
        go_wp2_with fail
        have hrol : Rol wr w.heap.size 53 (xs.take j) [] := by have := HRr.out; rwa [show j + 1 - 1 = j from by omega] at this
        refine (push_any _ _ _ _ _ _ hx0 hx1 hrol).mono ?_
        rintro e w3 ⟨rfl, hr3, ht3⟩
        have hB3 := ht3.below HBr.out (Nat.le_refl _) HBr.out.size
        rw [ht.out] at hr3 ⊢
        have hys2 : sumB (last16 (xs.take (j + 1))) = s := by rw [HYS.out, HS.out]
        have HYS2 := Lib.hid hys2
        have HR3 := Lib.hid hr3
        have HB3 := Lib.hid hB3
        clear hys2 hr3 hB3 ht3 hrol
        rw [HYS2.out]
        go_wp2_with fail
        refine (rsumm_any _ _ _ _ _ HR3.out).mono ?_
        rintro e w4 ⟨rfl, rfl⟩
        rw [HYS2.out]
        go_wp2_with fail
        refine (full_any _ _ _ _ _ HR3.out).mono ?_
        rintro e w4 ⟨rfl, rfl⟩
        have e1 : decide (16 ≤ (xs.take (j + 1)).length) = decide ((16 : Int) ≤ (j : Int) + 1) := by
          rw [decide_eq_decide, List.length_take]; omega
        rw [e1]
        clear e1
        go_wp2_with fail
        go_roundw
        case rel => exact ⟨j + 2, by omega, by go_num, HR3, HB3⟩
        case measure => simp [intOf]; omega
    · go_wp2_with fail
      refine (awake5_any _).mono ?_
      rintro e w2 ⟨rfl, hB2⟩
      go_wp2_with fail
      go_ret
      exact ⟨rfl, HBr.out.trans (hB2.mono HBr.out.size)⟩

set_option maxHeartbeats 400000 in
theorem windows_big (A : Option Addr) (len cap : Nat) (w : World) (h : 1000 < len) :
    Calls Try.prog 8 #[.slice A len cap] w fun e w' => e = .returned (.bool true) ∧ Below w.heap.size w w' := by
  go_enter Try.func8, Try.ntmps8
  go_wp2_with fail
  refine (rnew_any _).mono ?_
  rintro e w1 ⟨rfl, hw1⟩
  have hB1 : Below w.heap.size w w1 := by rw [hw1]; exact (Below.refl _ _).alloc (Nat.le_refl _) _
  clear hw1
  have HB1 := Lib.hid hB1
  clear hB1
  go_wp2_with fail
  go_ret
  exact ⟨rfl, HB1.out⟩
theorem RollWindows_walk (a0 : Option Addr) (len0 cap0 : Nat) (z0 : List Int) (w : World) (w0 : IsRow .u8 w a0 len0 cap0 z0) :
    Calls Try.prog 8 #[.slice a0 len0 cap0] w fun e w' => e = .returned (.bool true) ∧ Below w.heap.size w w' := by
  by_cases h : 1000 < len0
  · exact windows_big _ _ _ _ h
  · obtain ⟨xs, rfl, hc, hr⟩ := w0.rd (by omega)
    exact windows_walk _ _ _ _ hc hr (by omega)

end Go.Proofs.Ytneieogpdjlnbaa
