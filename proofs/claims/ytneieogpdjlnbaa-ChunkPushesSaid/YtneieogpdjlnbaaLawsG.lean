/- The walks of layer 6's laws ChunkKnown, ChunkNone: each returns true and writes nothing that was there. Conditions: none beyond how the arguments lie in memory. -/
import Derived.Test.YtneieogpdjlnbaaAwk
import Derived.Test.YtneieogpdjlnbaaLawsA
set_option linter.unusedVariables false
set_option linter.unusedSimpArgs false
namespace Go.Proofs.Ytneieogpdjlnbaa
open Go Go.RowKit Go.Proofs.YtneieogpdjlnbaaW.PrintWords

/-- No chunk is longer than 1,024. -/
theorem cutRun_le (bs : List Int) : ∀ h, h.length ≤ 1023 → (∀ l ∈ (cutRun h bs).1, l.length ≤ 1024) ∧ (cutRun h bs).2.length ≤ 1023 := by
  induction bs with
  | nil => intro h hl; exact ⟨fun l hm => by simp [cutRun] at hm, by simpa [cutRun] using hl⟩
  | cons c bs ih =>
    intro h hl
    rw [cutRun]
    split
    · rename_i he
      obtain ⟨h1, h2⟩ := ih [] (by simp)
      refine ⟨fun l hm => ?_, h2⟩
      rcases List.mem_cons.1 hm with rfl | hm
      · simp; omega
      · exact h1 l hm
    · rename_i he
      refine ih _ ?_
      have hne : (h ++ [c]).length ≠ 1024 := fun e => he (by unfold endsB; rw [decide_eq_true e]; rfl)
      rw [List.length_append, List.length_singleton] at hne ⊢
      omega
theorem split_le (bs : List Int) {l : List Int} (h : l ∈ splitB bs) : l.length ≤ 1024 := by
  obtain ⟨h1, h2⟩ := cutRun_le bs [] (by simp)
  unfold splitB at h
  rcases List.mem_append.1 h with h | h
  · exact h1 l h
  · split at h
    · cases h
    · rw [List.mem_singleton] at h
      subst h
      omega
theorem flat_le : ∀ {ls : List (List Int)}, (∀ l ∈ ls, l.length ≤ 1024) → ls.flatten.length ≤ 1024 * ls.length
  | [], _ => by simp
  | l :: ls, h => by
    have h1 := h l (by simp)
    have h2 := flat_le (ls := ls) (fun m hm => h m (by simp [hm]))
    rw [List.flatten_cons, List.length_append, List.length_cons]
    omega

set_option maxHeartbeats 1600000 in
theorem ChunkKnown_walk (w : World) : Calls Try.prog 7 #[] w fun e w' => e = .returned (.bool true) ∧ Below w.heap.size w w' := by
  have hmk : ∀ W, (Instr.makeSlice 22 (.int .i64 3000) (.int .i64 3000)).run Try.prog W = .ok (.slice (some ⟨W.heap.size, 0, none⟩) 3000 3000) (W.alloc (.cells (zerosB 3000) 5)) := fun W => mk_zeros 3000 (by omega) W
  have HMK := Lib.hid hmk
  clear hmk
  go_enter Try.func7, Try.ntmps7
  go_wp2_with fail
  refine (new_any w).mono ?_
  rintro e w1 ⟨g, rfl, hg, hc1, hB1⟩
  have HC1 := Lib.hid hc1
  have HB1 := Lib.hid hB1
  clear hc1 hB1
  go_wp2_with fail
  refine (end_any g _ _ w1 HC1.out).mono ?_
  rintro e w2 ⟨rfl, hc2, hT2⟩
  have hB2 := HB1.out.grown hT2.1 HB1.out.size (fun k e => by cases e; exact hg)
  have HC2 := Lib.hid hc2
  have HB2 := Lib.hid hB2
  clear hc2 hT2 hB2 HC1 HB1
  go_wp2_with fail
  have hB3 := HB2.out.alloc HB2.out.size (.cells #[.int .u8 3] 5)
  have hc3 := HC2.out.grown (World.grownBy_alloc w2 (.cells #[.int .u8 3] 5) none) (by simp)
  generalize w2.alloc (.cells #[.int .u8 3] 5) = w3 at *
  refine (push_err (some ⟨g, 0, none⟩) 9 _ _ _ w3 (.inr rfl) (fun W hW => by have := out_any g _ _ true W (hc3.below hW hc3.lt); simpa using this)).mono ?_
  rintro e w4 ⟨rfl, hB4⟩
  have hB4' := hB3.trans (hB4.mono hB3.size)
  have hc4 := hc3.below hB4 hc3.lt
  have HC4 := Lib.hid hc4
  have HB4 := Lib.hid hB4'
  clear hB3 hc3 hB4 hB4' hc4 HC2 HB2
  go_wp2_with fail
  refine (end_err (.pointer (some ⟨g, 0, none⟩)) 9 w4 (.inr rfl) (by have := out_any g _ _ true w4 HC4.out; simpa using this)).mono ?_
  rintro e w5 ⟨rfl, rfl⟩
  have hmk := HMK.out
  clear HMK
  go_wp2_with fail
  clear hmk
  have hz : zerosB 3000 = (nums .u8 (List.replicate 3000 0)).toArray := rfl
  have hrd := RdS.lit w4 (fun _ => True) (List.replicate 3000 0) 5 (IsBytes.zeros 3000) (by rw [List.length_replicate]; omega) trivial
  rw [← hz] at hrd
  have hB6 := HB4.out.alloc HB4.out.size (.cells (zerosB 3000) 5)
  have hc6 := HC4.out.grown (World.grownBy_alloc w4 (.cells (zerosB 3000) 5) none) (by simp)
  clear hz
  generalize w4.alloc (.cells (zerosB 3000) 5) = w6 at *
  have hcut := cut_any (fun _ => True) 3000 (some ⟨w4.heap.size, 0, none⟩) (List.replicate 3000 0) w6 hrd (by rw [List.length_replicate]; omega) (by rw [List.length_replicate]; omega)
  rw [List.length_replicate] at hcut
  refine hcut.mono ?_
  rintro e w7 ⟨v7, rfl, ho7, hB7⟩
  obtain ⟨A7, c7, rfl, _⟩ := ho7.rd
  have hm : 3 ≤ (lensB (List.replicate 3000 0)).length := by
    have h1 := flat_le (ls := splitB (List.replicate 3000 0)) (fun l hl => split_le _ hl)
    rw [split_flat, List.length_replicate] at h1
    unfold lensB
    rw [List.length_map]
    omega
  obtain ⟨m, hmm⟩ : ∃ m, (lensB (List.replicate 3000 0)).length = m := ⟨_, rfl⟩
  rw [hmm] at hm ⊢
  have hB7' := hB6.trans (hB7.mono hB6.size)
  have hc7 := hc6.below hB7 hc6.lt
  have HC7 := Lib.hid hc7
  have HB7 := Lib.hid hB7'
  clear hcut hrd hB6 hc6 ho7 hB7 hB7' hc7 HC4 HB4 hmm
  have hd3 : decide ((3 : Int) ≤ (m : Int)) = true := by simp; omega
  go_wp2_with fail
  refine (awake6_any w7).mono ?_
  rintro e w8 ⟨rfl, hB8⟩
  have hB8' := HB7.out.trans (hB8.mono HB7.out.size)
  have hc8 := HC7.out.below hB8 HC7.out.lt
  have HC8 := Lib.hid hc8
  have HB8 := Lib.hid hB8'
  clear hB8 hB8' hc8 HC7 HB7
  go_wp2_with fail
  refine (left_any g _ none 0 0 true w8 HC8.out).mono ?_
  rintro e w8' ⟨rfl, rfl⟩
  go_wp2_with fail
  refine (split_any (fun _ => True) 0 none [] w8 (RdS.nil _ _ _) (by simp) (by simp)).mono ?_
  rintro e w9 ⟨v9, rfl, ho9, hB9⟩
  rw [show splitB [] = [] from rfl] at ho9
  obtain ⟨A9, c9, rfl⟩ := ho9.shape
  have HB9 := Lib.hid (HB8.out.trans (hB9.mono HB8.out.size))
  clear ho9 hB9 HC8 HB8
  go_wp2_with fail
  go_ret
  exact ⟨rfl, HB9.out⟩
end Go.Proofs.Ytneieogpdjlnbaa
