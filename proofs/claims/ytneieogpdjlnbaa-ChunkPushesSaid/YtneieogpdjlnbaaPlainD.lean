/- The plain side of layer 6's laws: where chunks end and where not. Conditions: none beyond those that each statement names. -/
import Derived.Test.YtneieogpdjlnbaaPlainC
set_option linter.unusedVariables false
set_option linter.unusedSimpArgs false
namespace Go.Proofs.Ytneieogpdjlnbaa

/-- No chunk ends before the bytes h do. -/
def NoEnd (h : List Int) : Prop := ∀ k, k < h.length → endsB (h.take k) = false
theorem endsB_nil : endsB [] = false := rfl
theorem NoEnd.snoc {h : List Int} {c : Int} (hn : NoEnd h) (he : endsB h = false) : NoEnd (h ++ [c]) := by
  intro k hk
  rw [List.length_append, List.length_singleton] at hk
  by_cases e : k = h.length
  · subst e
    rw [List.take_left]
    exact he
  · rw [List.take_append_of_le_length (by omega)]
    exact hn k (by omega)
theorem cutRun_noEnd (bs : List Int) : ∀ h, NoEnd h → endsB h = false → (∀ l ∈ (cutRun h bs).1, NoEnd l) ∧ NoEnd (cutRun h bs).2 ∧ endsB (cutRun h bs).2 = false := by
  induction bs with
  | nil => intro h hn he; exact ⟨fun l hm => by simp [cutRun] at hm, by simpa [cutRun] using hn, by simpa [cutRun] using he⟩
  | cons c bs ih =>
    intro h hn he
    rw [cutRun]
    split
    · rename_i hc
      obtain ⟨h1, h2, h3⟩ := ih [] (fun k hk => by simp at hk) rfl
      refine ⟨fun l hm => ?_, h2, h3⟩
      rcases List.mem_cons.1 hm with rfl | hm
      · exact hn.snoc he
      · exact h1 l hm
    · rename_i hc
      exact ih _ (hn.snoc he) (by simpa using hc)
theorem split_noEnd (bs : List Int) {l : List Int} (h : l ∈ splitB bs) : NoEnd l := by
  obtain ⟨h1, h2, h3⟩ := cutRun_noEnd bs [] (fun k hk => by simp at hk) rfl
  unfold splitB at h
  rcases List.mem_append.1 h with h | h
  · exact h1 l h
  · split at h
    · cases h
    · rw [List.mem_singleton] at h
      subst h
      exact h2
/-- Each chunk but the last ends by what it is. -/
theorem split_ended (bs : List Int) (i : Nat) (hi : i + 1 < (splitB bs).length) : endsB ((splitB bs).getD i []) = true := by
  have hlt : i < (cutRun [] bs).1.length := by
    unfold splitB at hi
    rw [List.length_append] at hi
    split at hi
    · simp at hi; omega
    · simp at hi; omega
  have e : (splitB bs).getD i [] = (cutRun [] bs).1[i] := by
    unfold splitB
    rw [List.getD_eq_getElem?_getD, List.getElem?_append_left hlt, List.getElem?_eq_getElem hlt]
    rfl
  rw [e]
  exact cutRun_ends bs [] _ (List.getElem_mem hlt)
theorem getD_mem {α : Type} {ls : List α} {i : Nat} (d : α) (hi : i < ls.length) : ls.getD i d ∈ ls := by
  rw [List.getD_eq_getElem?_getD, List.getElem?_eq_getElem hi]
  exact List.getElem_mem hi
theorem last16_take (l : List Int) (k : Nat) (hk : k ≤ l.length) : last16 (l.take k) = (l.take k).drop (k - 16) := by
  unfold last16
  rw [List.length_take, Nat.min_eq_left hk]
/-- What a window's sum says within a chunk, and at its end. -/
theorem says_in {l : List Int} (hn : NoEnd l) (hl : l.length ≤ 1024) (k : Nat) (h64 : 64 ≤ k) (hk : k < l.length) : ¬ sumB ((l.take k).drop (k - 16)) / 16777216 = 0 := by
  have h := hn k hk
  unfold endsB at h
  rw [List.length_take, Nat.min_eq_left (by omega), decide_eq_false (show ¬ k = 1024 by omega), decide_eq_true h64, last16_take l k (by omega)] at h
  simpa using h
theorem says_at {l : List Int} (he : endsB l = true) (hne : l.length ≠ 1024) : 64 ≤ l.length ∧ sumB (l.drop (l.length - 16)) / 16777216 = 0 := by
  unfold endsB at he
  rw [decide_eq_false hne, Bool.false_or, Bool.and_eq_true, decide_eq_true_eq, decide_eq_true_eq] at he
  exact he
end Go.Proofs.Ytneieogpdjlnbaa
