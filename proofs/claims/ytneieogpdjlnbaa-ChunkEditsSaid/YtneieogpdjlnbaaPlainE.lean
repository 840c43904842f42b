/- The plain side of layer 6's laws: bytes behind a cut stand alone; what bytes begin with is cut as it is in them. Conditions: none beyond those that each statement names. -/
import Derived.Test.YtneieogpdjlnbaaRefA
set_option linter.unusedVariables false
set_option linter.unusedSimpArgs false
namespace Go.Proofs.Ytneieogpdjlnbaa

theorem cut_one {c : List Int} (hn : NoEnd c) (he : endsB c = true) : cutRun [] c = ([c], []) := by
  have hN : NextB c c.length true := ⟨Nat.le_refl _, hn, fun _ => by rw [List.take_length]; exact he, fun h => by cases h⟩
  have := hN.cut.2
  rw [List.take_length, List.drop_length] at this
  simpa [cutRun] using this
theorem cutRun_noEnd' (bs : List Int) {l : List Int} (h : l ∈ (cutRun [] bs).1) : NoEnd l := (cutRun_noEnd bs [] (fun k hk => by simp at hk) rfl).1 l h
theorem cut_step {bs c : List Int} {cs : List (List Int)} {r : List Int} (h : cutRun [] bs = (c :: cs, r)) : cutRun [] (cs.flatten ++ r) = (cs, r) := by
  have hm : c ∈ (cutRun [] bs).1 := by rw [h]; simp
  have h1 := cut_one (cutRun_noEnd' bs hm) (cutRun_ends bs [] c hm)
  have hf := cutRun_flat bs []
  rw [h] at hf
  simp only [List.flatten_cons, List.append_assoc, List.nil_append] at hf
  rw [← hf, cutRun_append, h1] at h
  simp only [List.cons_append, List.nil_append, Prod.mk.injEq, List.cons.injEq, true_and] at h
  exact Prod.ext h.1 h.2
theorem cut_drop (w : Nat) : ∀ {bs : List Int} {cs : List (List Int)} {r : List Int}, cutRun [] bs = (cs, r) → w ≤ cs.length → cutRun [] ((cs.drop w).flatten ++ r) = (cs.drop w, r) := by
  induction w with
  | zero =>
    intro bs cs r h _
    have hf := cutRun_flat bs []
    rw [h, List.nil_append] at hf
    rw [List.drop_zero]
    simp only at hf
    rw [hf]
    exact h
  | succ w ih =>
    intro bs cs r h hw
    cases cs with
    | nil => simp at hw
    | cons c cs =>
      have := ih (cut_step h) (by simpa using hw)
      simpa using this
/-- Behind any cut bytes are cut as if they stood alone. -/
theorem split_drop (bs : List Int) (w : Nat) (hw : w ≤ (splitB bs).length) : splitB (bs.drop ((splitB bs).take w).flatten.length) = (splitB bs).drop w ∧ ((splitB bs).take w).flatten.length ≤ bs.length := by
  have hb : bs = ((splitB bs).take w).flatten ++ ((splitB bs).drop w).flatten := by
    conv => lhs; rw [← split_flat bs]
    rw [← List.flatten_append, List.take_append_drop]
  have hlen : ((splitB bs).take w).flatten.length ≤ bs.length := by
    have := congrArg List.length hb
    rw [List.length_append] at this
    omega
  refine ⟨?_, hlen⟩
  have hd : bs.drop ((splitB bs).take w).flatten.length = ((splitB bs).drop w).flatten := by
    conv => lhs; rw [hb]
    rw [List.drop_left' (by rw [← hb])]
  rw [hd]
  obtain ⟨cs, hcs⟩ : ∃ cs, (cutRun [] bs).1 = cs := ⟨_, rfl⟩
  obtain ⟨r, hr⟩ : ∃ r, (cutRun [] bs).2 = r := ⟨_, rfl⟩
  have hc : cutRun [] bs = (cs, r) := Prod.ext hcs hr
  unfold splitB at hw ⊢
  rw [hcs, hr] at hw ⊢
  by_cases h : w ≤ cs.length
  · have := cut_drop w hc h
    rw [List.drop_append_of_le_length h, List.flatten_append]
    have e : (if r = [] then ([] : List (List Int)) else [r]).flatten = r := by
      by_cases hr0 : r = []
      · rw [if_pos hr0, hr0]; rfl
      · rw [if_neg hr0]; simp
    rw [e, this]
  · have : (cs ++ if r = [] then [] else [r]).length ≤ w := by
      rw [List.length_append]
      by_cases hr0 : r = []
      · rw [if_pos hr0]; simp only [List.length_nil]; omega
      · rw [if_neg hr0]; simp only [List.length_singleton]; omega
    rw [List.drop_of_length_le this]
    rfl
/-- What bytes begin with is cut as it is in them, but for its last chunk. -/
theorem split_take (bs : List Int) (u i : Nat) (hi : i + 1 < (splitB (bs.take u)).length) : i < (splitB bs).length ∧ (splitB (bs.take u)).getD i [] = (splitB bs).getD i [] := by
  obtain ⟨cs, hcs⟩ : ∃ cs, (cutRun [] (bs.take u)).1 = cs := ⟨_, rfl⟩
  have hlt : i < cs.length := by
    unfold splitB at hi
    rw [List.length_append, hcs] at hi
    split at hi <;> simp at hi <;> omega
  have h1 : (cutRun [] bs).1 = cs ++ (cutRun (cutRun [] (bs.take u)).2 (bs.drop u)).1 := by
    conv => lhs; rw [← List.take_append_drop u bs, cutRun_append]
    rw [hcs]
  have e1 : (splitB (bs.take u)).getD i [] = cs[i] := by
    unfold splitB
    rw [hcs, List.getD_eq_getElem?_getD, List.getElem?_append_left hlt, List.getElem?_eq_getElem hlt]
    rfl
  have e2 : (splitB bs).getD i [] = cs[i] := by
    unfold splitB
    rw [h1, List.append_assoc, List.getD_eq_getElem?_getD, List.getElem?_append_left hlt, List.getElem?_eq_getElem hlt]
    rfl
  refine ⟨?_, e1.trans e2.symm⟩
  unfold splitB
  rw [h1, List.length_append, List.length_append]
  omega
theorem lensB_drop (bs : List Int) (w : Nat) (hw : w ≤ (splitB bs).length) : lensB (bs.drop ((splitB bs).take w).flatten.length) = (lensB bs).drop w := by
  unfold lensB
  rw [(split_drop bs w hw).1, List.map_drop]
theorem lensB_getD (bs : List Int) (i : Nat) (hi : i < (splitB bs).length) : (lensB bs).getD i 0 = (((splitB bs).getD i []).length : Int) := by
  unfold lensB
  simp [List.getD_eq_getElem?_getD, List.getElem?_eq_getElem hi]
theorem lensB_len (bs : List Int) : (lensB bs).length = (splitB bs).length := by unfold lensB; simp
end Go.Proofs.Ytneieogpdjlnbaa
