/- The plain side of the layer chunk: what the chunks of bytes come to, how long they are, where they end. Conditions: none beyond those that each statement names. -/
import Derived.Test.YtneieogpdjlnbaaPlain
set_option linter.unusedVariables false
set_option linter.unusedSimpArgs false
namespace Go.Proofs.Ytneieogpdjlnbaa

theorem cutRun_flat (bs : List Int) : ∀ h, (cutRun h bs).1.flatten ++ (cutRun h bs).2 = h ++ bs := by
  induction bs with
  | nil => intro h; simp [cutRun]
  | cons c bs ih =>
    intro h
    simp only [cutRun]
    split
    · simp only [List.flatten_cons, List.append_assoc, ih]
      simp
    · rw [ih]
      simp
theorem split_flat (bs : List Int) : (splitB bs).flatten = bs := by
  have h := cutRun_flat bs []
  unfold splitB
  split
  · rename_i e
    rw [e] at h
    simpa using h
  · simpa using h
theorem mem_len {ls : List (List Int)} {l : List Int} (h : l ∈ ls) : l.length ≤ ls.flatten.length := by
  induction ls with
  | nil => cases h
  | cons m ls ih =>
    rw [List.flatten_cons, List.length_append]
    rcases List.mem_cons.1 h with rfl | h
    · omega
    · have := ih h; omega
theorem split_len (bs : List Int) {l : List Int} (h : l ∈ splitB bs) : l.length ≤ bs.length := by
  have := mem_len h
  rwa [split_flat] at this
/-- Each chunk that has ended ends so, and no earlier place within it does. -/
theorem ends_pos {h : List Int} (he : endsB h = true) : 64 ≤ h.length := by
  unfold endsB at he
  simp only [Bool.or_eq_true, Bool.and_eq_true, decide_eq_true_eq] at he
  omega
theorem cutRun_ends (bs : List Int) : ∀ h, ∀ l ∈ (cutRun h bs).1, endsB l = true := by
  induction bs with
  | nil => intro h l hl; simp [cutRun] at hl
  | cons c bs ih =>
    intro h l hl
    simp only [cutRun] at hl
    split at hl
    · rename_i he
      rcases List.mem_cons.1 hl with rfl | hl
      · exact he
      · exact ih [] l hl
    · exact ih _ l hl
theorem split_ne (bs : List Int) {l : List Int} (h : l ∈ splitB bs) : 0 < l.length := by
  unfold splitB at h
  rcases List.mem_append.1 h with h | h
  · have := ends_pos (cutRun_ends bs [] l h)
    omega
  · split at h
    · cases h
    · rename_i hne
      rw [List.mem_singleton] at h
      subst h
      exact List.length_pos_iff.2 hne
theorem count_le : ∀ {ls : List (List Int)}, (∀ l ∈ ls, 0 < l.length) → ls.length ≤ ls.flatten.length
  | [], _ => by simp
  | l :: ls, h => by
    have h1 := h l (by simp)
    have h2 := count_le (ls := ls) (fun m hm => h m (by simp [hm]))
    rw [List.flatten_cons, List.length_append, List.length_cons]
    omega
theorem split_count (bs : List Int) : (splitB bs).length ≤ bs.length := by
  have := count_le (ls := splitB bs) (fun l h => split_ne bs h)
  rwa [split_flat] at this
end Go.Proofs.Ytneieogpdjlnbaa
