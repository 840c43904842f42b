/- The walk of the statements' awake (chapter 6). Conditions: those that each statement names. -/
import Derived.Test.YtneieogpdjlnbaaPshA
set_option linter.unusedVariables false
set_option linter.unusedSimpArgs false
namespace Go.Proofs.Ytneieogpdjlnbaa
open Go Go.RowKit Go.Proofs.YtneieogpdjlnbaaW.PrintWords

/-- Few bytes are not cut. -/
theorem cutRun_short (bs : List Int) : ∀ h, h.length + bs.length < 64 → cutRun h bs = ([], h ++ bs) := by
  induction bs with
  | nil => intro h _; simp [cutRun]
  | cons c bs ih =>
    intro h hl
    rw [List.length_cons] at hl
    have hne : endsB (h ++ [c]) = false := by
      unfold endsB
      rw [decide_eq_false (show ¬ (h ++ [c]).length = 1024 by simp; omega), decide_eq_false (show ¬ 64 ≤ (h ++ [c]).length by simp; omega)]
      rfl
    rw [cutRun, hne, if_neg (by simp), ih _ (by simp; omega)]
    simp
theorem lensB_short (bs : List Int) (h0 : 0 < bs.length) (h1 : bs.length < 64) : lensB bs = [(bs.length : Int)] := by
  have hne : bs ≠ [] := fun e => by rw [e] at h0; simp at h0
  unfold lensB splitB
  rw [cutRun_short bs [] (by simpa using h1)]
  simp [hne]
theorem lensB_nil : lensB [] = [] := rfl
theorem RdS.lit (w : World) (S : Nat → Prop) (xs : List Int) (t : Nat) (hb : IsBytes xs) (hl : xs.length ≤ 140737488355328) (hS : S w.heap.size) : RdS (w.alloc (.cells (nums .u8 xs).toArray t)) S (some ⟨w.heap.size, 0, none⟩) xs :=
  ⟨hb, hl, fun hp => ⟨_, rfl, hS, fun j hj => by
    rw [add_plain, (Blk.new w t (nums .u8 xs).toArray).cell j]
    simp [nums, hj, List.getD_eq_getElem?_getD]⟩⟩
theorem RdI.lit (w : World) (x : Int) (t : Nat) : RdI (w.alloc (.cells #[.int .i64 x] t)) (some ⟨w.heap.size, 0, none⟩) [x] := fun j hj => by
  obtain rfl : j = 0 := by simp at hj; omega
  refine ⟨_, rfl, ?_⟩
  rw [add_plain, (Blk.new w t #[.int .i64 x]).cell 0]
  rfl
theorem RdS.nil (w : World) (S : Nat → Prop) (A : Option Addr) : RdS w S A [] := ⟨fun x hx => by simp at hx, by simp, fun hp => by simp at hp⟩
theorem lit12 (w : World) : w.alloc (.cells #[.int .u8 1, .int .u8 2] 5) = w.alloc (.cells (nums .u8 [1, 2]).toArray 5) := rfl

set_option maxHeartbeats 1600000 in
theorem awake6_any (w : World) : Calls Try.prog 34 #[] w fun e w' => e = .returned (.bool true) ∧ Below w.heap.size w w' := by
  have hmk : ∀ W, (Instr.makeSlice 22 (.int .i64 63) (.int .i64 63)).run Try.prog W = .ok (.slice (some ⟨W.heap.size, 0, none⟩) 63 63) (W.alloc (.cells (zerosB 63) 5)) := fun W => mk_zeros 63 (by omega) W
  go_enter Try.func34, Try.ntmps34
  go_wp2_with fail
  refine (new_any w).mono ?_
  rintro e w1 ⟨g, rfl, hg, hc1, hB1⟩
  have hgl := hc1.lt
  have HC1 := Lib.hid hc1
  have HB1 := Lib.hid hB1
  clear hc1 hB1
  go_wp2_with fail
  refine (cut_any (fun _ => True) 0 none [] w1 (RdS.nil _ _ _) (by simp) (by simp)).mono ?_
  rintro e w2 ⟨v2, rfl, ho2, hB2⟩
  rw [lensB_nil] at ho2
  obtain ⟨A2, c2, rfl, _⟩ := ho2.rd
  have hB2' := HB1.out.trans (hB2.mono HB1.out.size)
  have hc2 := HC1.out.below hB2 hgl
  have hgl2 := hc2.lt
  have HC2 := Lib.hid hc2
  have HB2 := Lib.hid hB2'
  clear ho2 hB2 hB2' hc2 HC1 HB1 hgl
  go_wp2_with fail
  clear hmk
  have hz : zerosB 63 = (nums .u8 (List.replicate 63 0)).toArray := rfl
  have hrd := RdS.lit w2 (fun _ => True) (List.replicate 63 0) 5 (IsBytes.zeros 63) (by simp) trivial
  rw [← hz] at hrd
  have hB3 := HB2.out.alloc HB2.out.size (.cells (zerosB 63) 5)
  have hc3 := HC2.out.grown (World.grownBy_alloc w2 (.cells (zerosB 63) 5) none) (by simp)
  generalize w2.alloc (.cells (zerosB 63) 5) = w3 at *
  have hcut := cut_any (fun _ => True) 63 (some ⟨w2.heap.size, 0, none⟩) (List.replicate 63 0) w3 hrd (by simp) (by simp)
  rw [List.length_replicate] at hcut
  refine hcut.mono ?_
  rintro e w4 ⟨v4, rfl, ho4, hB4⟩
  rw [lensB_short _ (by simp) (by simp), List.length_replicate] at ho4
  obtain ⟨A4, c4, rfl, hr4⟩ := ho4.rd
  have hB4' := hB3.trans (hB4.mono hB3.size)
  have hc4 := hc3.below hB4 hc3.lt
  have HC4 := Lib.hid hc4
  have HB4 := Lib.hid hB4'
  have HR4 := Lib.hid hr4
  clear hcut hrd hB3 hc3 ho4 hB4 hB4' hc4 hr4 HC2 HB2 hz
  go_wp2_with fail
  have hb5 := below_alloc (Below.refl w4.heap.size w4) (.cells #[.int .i64 63] 3)
  refine (sameInts_any c4 1 A4 (some ⟨w4.heap.size, 0, none⟩) [63] [63] _ (HR4.out.below hb5) (RdI.lit w4 63 3) (by simp) (by simp)).mono ?_
  rintro e w5 ⟨rfl, hB5⟩
  have hB5' := hb5.trans (hB5.mono hb5.size)
  have hB5'' := HB4.out.trans (hB5'.mono HB4.out.size)
  have hc5 := HC4.out.below hB5' HC4.out.lt
  rw [decide_eq_true rfl]
  have HC5 := Lib.hid hc5
  have HB5 := Lib.hid hB5''
  clear hb5 hB5 hB5' hB5'' hc5 HC4 HB4 HR4
  go_wp2_with fail
  have hrd6 := RdS.lit w5 (fun k => k ≠ g ∧ ¬ False) [1, 2] 5 (fun x hx => by simp at hx; omega) (by simp) ⟨by have := HC5.out.lt; omega, fun h => h⟩
  have hB6 := HB5.out.alloc HB5.out.size (.cells (nums .u8 [1, 2]).toArray 5)
  have hc6 := HC5.out.grown (World.grownBy_alloc w5 (.cells (nums .u8 [1, 2]).toArray 5) none) (by simp)
  rw [lit12 w5]
  generalize w5.alloc (.cells (nums .u8 [1, 2]).toArray 5) = w6 at *
  refine (cpush_any g 2 (fun _ => False) (some ⟨w5.heap.size, 0, none⟩) [] [1, 2] (.slice none 0 0) w6 hc6 (OwnB.nil _ _) (fun k hk => hk.elim) hrd6 (by simp) (by simp)).mono ?_
  rintro e w7 ⟨v7, lv7, S1, S2, rfl, hc7, hol, hob, hS12, hSn, hF7⟩
  rw [cutRun_short _ _ (by simp), List.nil_append] at hc7 hol hob
  obtain ⟨A7, c7, rfl⟩ := hol.shape
  have hB7 := hB6.trans (hF7.below (B := w.heap.size) hB6.size (fun k hk => by rcases hk with h | h; omega; exact h.elim))
  obtain ⟨A8, c8, e8, _, hr8⟩ := hob.rd (by simp)
  subst e8
  have HC7 := Lib.hid hc7
  have HB7 := Lib.hid hB7
  have hr8g : RdS w7 (· ≠ g) A8 [1, 2] := hr8.mono (fun k hk _ => by
    rcases hSn k (.inr hk) with h | h
    · exact h.elim
    · have := hc6.lt; omega)
  have HR8 := Lib.hid hr8g
  clear hrd6 hB6 hc6 hc7 hol hob hS12 hSn hF7 hB7 hr8 hr8g HC5 HB5
  go_wp2_with fail
  refine (left_any g _ A8 _ c8 false w7 HC7.out).mono ?_
  rintro e w7' ⟨rfl, rfl⟩
  go_wp2_with fail
  refine (end_any g _ _ w7 HC7.out).mono ?_
  rintro e w8 ⟨rfl, hc8, hT8⟩
  have hB8 := HB7.out.grown hT8.1 HB7.out.size (fun k e => by cases e; exact hg)
  have hr9 : RdS w8 (· ≠ g) A8 [1, 2] := HR8.out.keep (fun k hk hlt => hT8.1.block k hlt (by simp; exact hk))
  have HB8 := Lib.hid hB8
  have HR9 := Lib.hid hr9
  clear hc8 hT8 hB8 hr9 HC7 HB7 HR8
  go_wp2_with fail
  have hb9 := below_alloc (Below.refl w8.heap.size w8) (.cells (nums .u8 [1, 2]).toArray 5)
  have hrl := RdS.lit w8 (fun _ => True) [1, 2] 5 (fun x hx => by simp at hx; omega) (by simp) trivial
  rw [lit12 w8]
  refine (same_any _ _ c8 2 A8 (some ⟨w8.heap.size, 0, none⟩) [1, 2] [1, 2] _ (HR9.out.rdB.below hb9) hrl.rdB).mono ?_
  rintro e w9 ⟨rfl, rfl⟩
  rw [decide_eq_true rfl]
  clear hrl
  have hB9 := HB8.out.alloc HB8.out.size (.cells (nums .u8 [1, 2]).toArray 5)
  have HB9 := Lib.hid hB9
  clear hB9 hb9
  generalize w8.alloc (.cells (nums .u8 [1, 2]).toArray 5) = w9 at *
  go_wp2_with fail
  go_ret
  exact ⟨rfl, HB9.out⟩
end Go.Proofs.Ytneieogpdjlnbaa
