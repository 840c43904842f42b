/- What ChunkPushes' loop keeps, and what a push of a piece turns. Conditions: those that each statement names. -/
import Derived.Test.YtneieogpdjlnbaaLawsJ
import Derived.Test.YtneieogpdjlnbaaLawsK
import Derived.Test.YtneieogpdjlnbaaRefB
set_option linter.unusedVariables false
set_option linter.unusedSimpArgs false
namespace Go.Proofs.Ytneieogpdjlnbaa
open Go Go.RowKit Go.Proofs.YtneieogpdjlnbaaW.PrintWords

/-- Pieces that are read: bytes, and whether it is an End. -/
def RdP (w : World) (A : Option Addr) (ls : List (List Int × Bool)) : Prop :=
  ∀ i, i < ls.length → ∃ ad A' c', A = some ad ∧ w.cell? (ad.add (i * 2)) = some (.slice A' (ls.getD i ([], false)).1.length c') ∧ w.cell? (ad.add (i * 2 + 1)) = some (.bool (ls.getD i ([], false)).2) ∧ (ls.getD i ([], false)).1.length ≤ c' ∧ RdB w w.heap.size A' (ls.getD i ([], false)).1
/-- How many bytes the first k pieces have. -/
def sumP (ls : List (List Int × Bool)) (k : Nat) : Nat := ((ls.take k).map (fun p => p.1.length)).sum
theorem sumP_succ (ls : List (List Int × Bool)) (k : Nat) (hk : k < ls.length) : sumP ls (k + 1) = sumP ls k + (ls.getD k ([], false)).1.length := by
  have e : ls.getD k ([], false) = ls[k] := by simp [List.getD_eq_getElem?_getD, List.getElem?_eq_getElem hk]
  unfold sumP
  rw [List.take_succ_eq_append_getElem hk, e, List.map_append, List.sum_append]
  simp

theorem RdP.below {w w' : World} {A : Option Addr} {ls : List (List Int × Bool)} (h : RdP w A ls) (hb : Below w.heap.size w w') : RdP w' A ls := fun i hi => by
  obtain ⟨ad, A', c', e, h1, h2, h3, h4⟩ := h i hi
  exact ⟨ad, A', c', e, pw_cell_below hb h1, pw_cell_below hb h2, h3, h4.up hb⟩
theorem sumP_mono (ls : List (List Int × Bool)) {i k : Nat} (h : i ≤ k) : k ≤ ls.length → sumP ls i ≤ sumP ls k := by
  induction h with
  | refl => intro _; exact Nat.le_refl _
  | step h ih =>
    intro hk
    have := ih (by omega)
    rw [sumP_succ ls _ (by omega)]
    omega
theorem RdP.sum {w : World} {A : Option Addr} {ls : List (List Int × Bool)} (h : RdP w A ls) : ∀ k, k ≤ ls.length → sumP ls k ≤ k * 140737488355328
  | 0, _ => by simp [sumP]
  | k + 1, hk => by
    have ih := h.sum k (by omega)
    obtain ⟨_, _, _, _, _, _, _, hr⟩ := h k hk
    have := hr.2.1
    rw [sumP_succ ls k hk]
    omega
theorem field_one (a : Addr) (k : Nat) : (⟨(a.add k).block, (a.add k).off + 1, none⟩ : Addr) = a.add (k + 1) := by
  unfold Addr.add
  by_cases hk : k = 0
  · subst hk; simp
  · simp [hk]; omega
/-- What waits is not cut any more. -/
theorem rest_stays (l : List Int) : cutRun [] (cutRun [] l).2 = ([], (cutRun [] l).2) := by
  obtain ⟨_, h2, h3⟩ := cutRun_noEnd l [] (fun k hk => by simp at hk) rfl
  have := cutRun_noend (cutRun [] l).2 [] (fun k hk hle => by
    rw [List.nil_append]
    rcases Nat.lt_or_ge k (cutRun [] l).2.length with h | h
    · exact h2 k h
    · rw [List.take_of_length_le h]; exact h3)
  simpa using this
theorem cut_rest_le (h xs : List Int) : (cutRun h xs).2.length ≤ h.length + xs.length := by
  have := congrArg List.length (cutRun_flat xs h)
  rw [List.length_append, List.length_append] at this
  omega
theorem lists_nil (w : World) : Calls Try.prog 45 #[.slice none 0 0, .slice none 0 0] w fun e w' => e = .returned (.bool true) ∧ Below w.heap.size w w' := by
  have := sameLists_any 0 0 none none [] [] w (fun j hj => by simp at hj) (fun j hj => by simp at hj) (by simp) (by simp)
  rw [decide_eq_true rfl] at this
  exact this
/-- What ChunkPushes' loop keeps. -/
def PuI (w : World) (g gr : Nat) (h left : List Int) (ov : Bool) (lv : Value) (SL SR : Nat → Prop) (A' : Option Addr) (c' : Nat) (W : World) : Prop :=
  CutAt W g h lv ov ∧ OwnB W SL lv left ∧ (∀ k, SL k → w.heap.size ≤ k ∧ k ≠ g ∧ k ≠ gr ∧ k < W.heap.size) ∧ Blk W gr 65 #[.slice A' left.length c', .bool ov] ∧ RdS W SR A' left ∧ (∀ k, SR k → w.heap.size ≤ k ∧ k ≠ g ∧ k ≠ gr ∧ k < W.heap.size ∧ ¬ SL k) ∧
    left.length ≤ c' ∧ (ov = false → h = left ∧ cutRun [] left = ([], left)) ∧ (ov = true → left = []) ∧ Below w.heap.size w W

theorem PuI.drewN {w : World} {g gr : Nat} {h left : List Int} {ov : Bool} {lv : Value} {SL SR : Nat → Prop} {A' : Option Addr} {c' : Nat} {W : World} (hI : PuI w g gr h left ov lv SL SR A' c' W) (n : Nat) : PuI w g gr h left ov lv SL SR A' c' (W.drewN n) := by
  obtain ⟨q1, q2, q3, q4, q5, q6, q7, q8, q9, q10⟩ := hI
  exact ⟨q1, q2, q3, q4, q5, q6, q7, q8, q9, pw_below_drewN q10 n⟩

theorem PuI.far {w : World} {g gr : Nat} {h left : List Int} {ov : Bool} {lv : Value} {SL SR T : Nat → Prop} {A' : Option Addr} {c' : Nat} {W W' : World} (hI : PuI w g gr h left ov lv SL SR A' c' W) (hT : ∀ k, T k → w.heap.size ≤ k ∧ k ≠ g ∧ k ≠ gr ∧ ¬ SL k ∧ ¬ SR k) (hF : Far W W' T) : PuI w g gr h left ov lv SL SR A' c' W' := by
  obtain ⟨q1, q2, q3, q4, q5, q6, q7, q8, q9, q10⟩ := hI
  have hs := hF.size
  refine ⟨q1.same (hF.same g q1.lt (fun h => (hT g h).2.1 rfl)), q2.keep (fun k hk hlt => hF.same k hlt (fun h => (hT k h).2.2.2.1 hk)), fun k hk => ?_, (hF.same gr q4.lt (fun h => (hT gr h).2.2.1 rfl)).trans q4, q5.keep (fun k hk hlt => hF.same k hlt (fun h => (hT k h).2.2.2.2 hk)), fun k hk => ?_, q7, q8, q9, q10.trans (hF.below q10.size (fun k hk => (hT k hk).1))⟩
  · obtain ⟨a1, a2, a3, a4⟩ := q3 k hk
    exact ⟨a1, a2, a3, by omega⟩
  · obtain ⟨a1, a2, a3, a4, a5⟩ := q6 k hk
    exact ⟨a1, a2, a3, by omega, a5⟩
/-- Bytes of which one block is turned to other bytes are bytes still. -/
theorem OvL.over {W W' : World} {S : Nat → Prop} {A : Option Addr} {n g c : Nat} (h : OvL W S A n) (hb : ByteBlk W g c) (hb' : ByteBlk W' g c) (ht : Turned W W' g) : OvL W' S A n := by
  rcases h with h | ⟨go, vs, sp, eA, hbo, hl, hr⟩
  · exact .inl h
  · have hne : go ≠ g := by
      rintro rfl
      obtain ⟨zs, _, _, hbz⟩ := hb
      exact not_bytes hbo (by decide) _ hbz
    refine .inr ⟨go, vs, sp, eA, hbo.grown ht.1 (by simp; exact hne), hl, fun j hj => ?_⟩
    obtain ⟨g2, m2, c2, ev2, hs2, hbb2, hm2⟩ := hr j hj
    refine ⟨g2, m2, c2, ev2, hs2, ?_, hm2⟩
    by_cases e : g2 = g
    · subst e
      rw [hbb2.same_cap hb]
      exact hb'
    · exact hbb2.keep (ht.1.block g2 hbb2.lt (by simp; exact e))
theorem Lent.bytes {W : World} {g : Nat} {xs : List Int} (h : Lent W g xs) (hb : IsBytes xs) (hl : xs.length ≤ 100000000) : ByteBlk W g (xs.length + 3) := ⟨_, (h.rd hb hl).1, by simp [markL], h⟩
/-- Behind the two pushes of a piece: what the loop keeps, and the blocks T that are overwritten. -/
theorem pu_push {w wr w1 w2 w3 : World} {g gr : Nat} {h xs rs : List Int} {ps : List (List Int)} {lv lv' v : Value} {SL SR S1 S2 : Nat → Prop} {A' A2 : Option Addr} {c' cr : Nat} (hI : PuI w g gr h h false lv SL SR A' c' wr) (hL1 : Lent w1 wr.heap.size xs) (hB1 : Below wr.heap.size wr w1)
    (c2 : CutAt w2 g rs lv' false) (o1 : OwnL w2 S1 v ps) (o2 : OwnB w2 S2 lv' rs) (h12 : ∀ k, S1 k → S2 k → False) (hSn : ∀ k, S1 k ∨ S2 k → SL k ∨ w1.heap.size ≤ k) (hF2 : Far w1 w2 (fun k => k = g ∨ SL k))
    (hbr : Blk w3 gr 65 #[.slice A2 rs.length cr, .bool false]) (hrr : RdS w3 (w2.heap.size ≤ ·) A2 rs) (hF3 : Far w2 w3 (· = gr)) (hc : rs.length ≤ cr) (hrest : cutRun [] rs = ([], rs))
    (hg : w.heap.size ≤ g) (hgr : w.heap.size ≤ gr) (hne : g ≠ gr) :
    ∃ SL' SR' T, PuI w g gr rs rs false lv' SL' SR' A2 cr w3 ∧ (∀ k, T k → w.heap.size ≤ k ∧ k ≠ g ∧ k ≠ gr ∧ ¬ SL' k ∧ ¬ SR' k) ∧ T wr.heap.size ∧ OwnL w3 T v ps ∧ Lent w3 wr.heap.size xs := by
  obtain ⟨q1, q2, q3, q4, q5, q6, q7, q8, q9, q10⟩ := hI
  have s0 := q10.size
  have s1 := hL1.lt
  have s2 := hF2.size
  have s3 := hF3.size
  have lg := q1.lt
  have lr := q4.lt
  have hlow : ∀ k, S1 k ∨ S2 k → w.heap.size ≤ k ∧ k ≠ g ∧ k ≠ gr ∧ k ≠ wr.heap.size := fun k hk => by
    rcases hSn k hk with h | h
    · obtain ⟨a1, a2, a3, a4⟩ := q3 k h
      exact ⟨a1, a2, a3, by omega⟩
    · omega
  have hB3 : Below w.heap.size w w3 := ((q10.trans (hB1.mono s0)).trans (hF2.below (by have := hB1.size; omega) (fun k hk => by
    rcases hk with hk | hk
    · omega
    · exact (q3 k hk).1))).trans (hF3.below (by omega) (fun k hk => by omega))
  refine ⟨fun k => S2 k ∧ k < w2.heap.size, fun k => w2.heap.size ≤ k ∧ k < w3.heap.size, fun k => k = wr.heap.size ∨ (S1 k ∧ k < w2.heap.size), ⟨c2.same (hF3.same g c2.lt hne), ?_, ?_, hbr, ?_, ?_, hc, fun _ => ⟨rfl, hrest⟩, fun (e : false = true) => (by cases e), hB3⟩, ?_, .inl rfl, ?_, ?_⟩
  · exact (o2.mono (fun k hk hlt => ⟨hk, hlt⟩)).keep (fun k hk hlt => hF3.same k hlt (hlow k (.inr hk.1)).2.2.1)
  · intro k hk
    obtain ⟨a1, a2, a3, a4⟩ := hlow k (.inr hk.1)
    exact ⟨a1, a2, a3, by omega⟩
  · exact hrr.mono (fun k hk hlt => ⟨hk, hlt⟩)
  · intro k hk
    exact ⟨by omega, by omega, by omega, hk.2, fun h => by omega⟩
  · rintro k (rfl | hk)
    · exact ⟨by omega, by omega, by omega, fun h => (hlow _ (.inr h.1)).2.2.2 rfl, fun h => by omega⟩
    · obtain ⟨a1, a2, a3, a4⟩ := hlow k (.inl hk.1)
      exact ⟨a1, a2, a3, fun h => h12 k hk.1 h.1, fun h => by omega⟩
  · exact ((o1.mono (S' := fun k => S1 k ∧ k < w2.heap.size) (fun k hk hlt => ⟨hk, hlt⟩)).keep (fun k hk hlt => hF3.same k hlt (hlow k (.inl hk.1)).2.2.1)).mono (fun k hk _ => .inr hk)
  · exact (hF3.same _ (by omega) (by omega)).trans ((hF2.same _ s1 (by
      rintro (h | h)
      · omega
      · have := q3 _ h; omega)).trans hL1)
end Go.Proofs.Ytneieogpdjlnbaa
