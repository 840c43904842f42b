/- The plain side of layer 6's law ChunkEdits: chunks ahead of a change, and behind it from a common cut on. Conditions: none beyond those that each statement names. -/
import Derived.Test.YtneieogpdjlnbaaPlainE
set_option linter.unusedVariables false
set_option linter.unusedSimpArgs false
namespace Go.Proofs.Ytneieogpdjlnbaa

theorem first_ge (t : List Int) : ∀ r d, ((cutRun r t).1 ++ (if (cutRun r t).2 = [] then [] else [(cutRun r t).2]))[0]? = some d → r.length ≤ d.length := by
  induction t with
  | nil =>
    intro r d h
    rw [show cutRun r [] = ([], r) from rfl] at h
    dsimp only at h
    rw [List.nil_append] at h
    by_cases hr : r = []
    · subst hr; simp
    · rw [if_neg hr] at h
      simp at h
      rw [h]
      exact Nat.le_refl _
  | cons c t ih =>
    intro r d h
    rw [cutRun] at h
    by_cases he : endsB (r ++ [c]) = true
    · rw [if_pos he] at h
      simp at h
      rw [← h]
      simp
    · rw [if_neg he] at h
      have := ih _ _ h
      simp at this
      omega
theorem splitB_append (a t : List Int) : splitB (a ++ t) = (cutRun [] a).1 ++ ((cutRun (cutRun [] a).2 t).1 ++ (if (cutRun (cutRun [] a).2 t).2 = [] then [] else [(cutRun (cutRun [] a).2 t).2])) := by
  unfold splitB
  rw [cutRun_append]
  simp
/-- A chunk that ends ahead of where a ends is a chunk of a. -/
theorem ahead_in (a t : List Int) (i : Nat) (hi : i < (splitB (a ++ t)).length) (hs : ((splitB (a ++ t)).take (i + 1)).flatten.length < a.length) : i < (cutRun [] a).1.length := by
  rcases Nat.lt_or_ge i (cutRun [] a).1.length with h | h
  · exact h
  · exfalso
    obtain ⟨cs, hcs⟩ : ∃ cs, (cutRun [] a).1 = cs := ⟨_, rfl⟩
    obtain ⟨r, hr⟩ : ∃ r, (cutRun [] a).2 = r := ⟨_, rfl⟩
    have hf := congrArg List.length (cutRun_flat a [])
    rw [hcs, hr, List.length_append, List.nil_append] at hf
    have hsp := splitB_append a t
    rw [hcs, hr] at hsp
    obtain ⟨ms, hms⟩ : ∃ ms, ((cutRun r t).1 ++ (if (cutRun r t).2 = [] then [] else [(cutRun r t).2])) = ms := ⟨_, rfl⟩
    have hfg := first_ge t r
    rw [hms] at hsp hfg
    rw [hsp] at hi hs
    rw [hcs] at h
    rw [List.length_append] at hi
    have hm0 : 0 < ms.length := by omega
    have hd := hfg ms[0] (List.getElem?_eq_getElem hm0)
    have hle : (cs ++ [ms[0]]).flatten.length ≤ ((cs ++ ms).take (i + 1)).flatten.length := by
      have e : (cs ++ ms).take (i + 1) = cs ++ [ms[0]] ++ ((cs ++ ms).take (i + 1)).drop (cs.length + 1) := by
        have h1 : ((cs ++ ms).take (i + 1)).take (cs.length + 1) = cs ++ [ms[0]] := by
          rw [List.take_take, Nat.min_eq_left (by omega), List.take_append, List.take_of_length_le (by omega), show cs.length + 1 - cs.length = 1 from by omega]
          cases ms with
          | nil => simp at hm0
          | cons x xs => simp
        conv => lhs; rw [← List.take_append_drop (cs.length + 1) ((cs ++ ms).take (i + 1)), h1]
      have e2 := congrArg (fun l : List (List Int) => l.flatten.length) e
      simp only [List.flatten_append, List.length_append] at e2 ⊢
      omega
    rw [List.flatten_append, List.length_append] at hle
    simp at hle
    simp at hf
    simp at hs
    omega
/-- Chunks ahead of a change are as they were. -/
theorem ahead_same (a t u : List Int) (i : Nat) (hi : i < (splitB (a ++ t)).length) (hs : ((splitB (a ++ t)).take (i + 1)).flatten.length < a.length) :
    i < (splitB (a ++ u)).length ∧ (splitB (a ++ u)).getD i [] = (splitB (a ++ t)).getD i [] := by
  have hlt := ahead_in a t i hi hs
  have e : ∀ t, (splitB (a ++ t)).getD i [] = (cutRun [] a).1[i] := fun t => by
    rw [splitB_append, List.getD_eq_getElem?_getD, List.getElem?_append_left hlt, List.getElem?_eq_getElem hlt]
    rfl
  refine ⟨?_, (e u).trans (e t).symm⟩
  rw [splitB_append, List.length_append]
  omega

/-- How many bytes stand behind each cut that has at most so many behind it. -/
def tailsL : List (List Int) → Nat → List Int
  | [], _ => []
  | _ :: ls, most => if ls.flatten.length ≤ most then (ls.flatten.length : Int) :: tailsL ls most else tailsL ls most
theorem tailsL_cons (l : List Int) (ls : List (List Int)) (most : Nat) : tailsL (l :: ls) most = if ls.flatten.length ≤ most then (ls.flatten.length : Int) :: tailsL ls most else tailsL ls most := rfl
theorem tailsL_at : ∀ (ls : List (List Int)) (most i : Nat), i < (tailsL ls most).length → ∃ j, j < ls.length ∧ (ls.drop (j + 1)).flatten.length ≤ most ∧ (tailsL ls most).drop i = ((ls.drop (j + 1)).flatten.length : Int) :: tailsL (ls.drop (j + 1)) most
  | [], _, i, h => by simp [tailsL] at h
  | l :: ls, most, i, h => by
    rw [tailsL_cons] at h ⊢
    by_cases hm : ls.flatten.length ≤ most
    · rw [if_pos hm] at h ⊢
      cases i with
      | zero => exact ⟨0, Nat.succ_pos _, hm, rfl⟩
      | succ i =>
        obtain ⟨j, h1, h2, h3⟩ := tailsL_at ls most i (Nat.lt_of_succ_lt_succ h)
        exact ⟨j + 1, Nat.succ_lt_succ h1, h2, h3⟩
    · rw [if_neg hm] at h ⊢
      obtain ⟨j, h1, h2, h3⟩ := tailsL_at ls most i h
      exact ⟨j + 1, Nat.succ_lt_succ h1, h2, h3⟩
theorem tailsL_len : ∀ (ls : List (List Int)) (most : Nat), (tailsL ls most).length ≤ ls.length
  | [], _ => by simp [tailsL]
  | l :: ls, most => by
    have := tailsL_len ls most
    unfold tailsL
    split <;> simp <;> omega
/-- From a cut on that has v bytes behind it, at most as many as c, all hangs on c alone. -/
theorem tails_from (a c : List Int) (i : Nat) (hi : i < (tailsL (splitB (a ++ c)) c.length).length) :
    ∃ v : Nat, (tailsL (splitB (a ++ c)) c.length).getD i 0 = (v : Int) ∧ (tailsL (splitB (a ++ c)) c.length).drop i = (v : Int) :: tailsL (splitB (c.drop (c.length - v))) c.length := by
  obtain ⟨j, hj, hle, hd⟩ := tailsL_at _ _ i hi
  have hsd := (split_drop (a ++ c) (j + 1) (by omega)).1
  have hb : a ++ c = ((splitB (a ++ c)).take (j + 1)).flatten ++ ((splitB (a ++ c)).drop (j + 1)).flatten := by
    conv => lhs; rw [← split_flat (a ++ c)]
    rw [← List.flatten_append, List.take_append_drop]
  obtain ⟨X, hX⟩ : ∃ X, ((splitB (a ++ c)).take (j + 1)).flatten = X := ⟨_, rfl⟩
  obtain ⟨D, hD⟩ : ∃ D, (splitB (a ++ c)).drop (j + 1) = D := ⟨_, rfl⟩
  rw [hX, hD] at hb hsd
  rw [hD] at hle hd
  have hlen := congrArg List.length hb
  rw [List.length_append, List.length_append] at hlen
  have hsuf : (a ++ c).drop X.length = c.drop (c.length - D.flatten.length) := by
    rw [List.drop_append, List.drop_of_length_le (show a.length ≤ X.length by omega), List.nil_append]
    congr 1
    omega
  rw [hsuf] at hsd
  refine ⟨D.flatten.length, ?_, ?_⟩
  · have h0 : (tailsL (splitB (a ++ c)) c.length).getD i 0 = ((tailsL (splitB (a ++ c)) c.length).drop i).getD 0 0 := by
      simp [List.getD_eq_getElem?_getD]
    rw [h0, hd]
    rfl
  · rw [hd, hsd]
end Go.Proofs.Ytneieogpdjlnbaa
