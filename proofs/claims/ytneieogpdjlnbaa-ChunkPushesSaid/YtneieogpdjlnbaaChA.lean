/- The walks of package chunk's edge: a byte comes, a new edge. Conditions: those that each statement names. -/
import Derived.Test.YtneieogpdjlnbaaKitB
import Derived.Deep.MidRow
set_option linter.unusedVariables false
set_option linter.unusedSimpArgs false
namespace Go.Proofs.Ytneieogpdjlnbaa
open Go.RowKit Go.Proofs.YtneieogpdjlnbaaW.PrintWords

/-- At the front of block g lies an edge that the bytes h came to; behind it the cells rest. -/
def EdgeAt (w : World) (g t : Nat) (h : List Int) (rest : List Value) : Prop := Rol w g t h (.int .i64 h.length :: rest)

theorem Rol.nth {w : World} {g t : Nat} {h : List Int} {rest : List Value} (hr : Rol w g t h rest) (j : Nat) : w.cell? ⟨g, 19 + j, none⟩ = rest[j]? := by
  obtain ⟨_, ring, n, s, hs, hb⟩ := hr
  rw [hb.cell (19 + j)]
  unfold rollCells
  have hl := hs.1
  simp only [List.getElem?_toArray]
  rw [List.append_assoc, List.getElem?_append_right (by rw [nums_length, hl]; omega), nums_length, hl, show 19 + j - 16 = j + 1 + 1 + 1 from by omega]
  rfl
theorem Rol.frozen {w : World} {g t : Nat} {h : List Int} {rest : List Value} (hr : Rol w g t h rest) (j : Nat) : w.frozen? ⟨g, j, none⟩ = false := by
  obtain ⟨_, ring, n, s, hs, hb⟩ := hr
  exact hb.frozen j
theorem Rol.set_ {w : World} {g t : Nat} {h : List Int} {rest : List Value} (hr : Rol w g t h rest) (j : Nat) (u : Value) : Rol (w.setCell ⟨g, 19 + j, none⟩ u) g t h (rest.set j u) := by
  obtain ⟨hb', ring, n, s, hs, hb⟩ := hr
  refine ⟨hb', ring, n, s, hs, ?_⟩
  have := hb.set_ (19 + j) u
  have e : (rollCells ring (n : Int) s ++ rest).toArray.setIfInBounds (19 + j) u = (rollCells ring (n : Int) s ++ rest.set j u).toArray := by
    unfold rollCells
    have hl := hs.1
    simp only [List.setIfInBounds_toArray, List.append_assoc]
    rw [List.set_append_right _ _ (by rw [nums_length, hl]; omega), nums_length, hl, show 19 + j - 16 = j + 1 + 1 + 1 from by omega]
    rfl
  rwa [e] at this
theorem Turned.setCell (w : World) (g j : Nat) (u : Value) : Turned w (w.setCell ⟨g, j, none⟩ u) g := ⟨only_setCell (World.grownBy.refl w _) (.inl rfl) u, by simp [World.setCell]⟩
theorem Turned.trans {a b c : World} {g : Nat} (h : Turned a b g) (k : Turned b c g) : Turned a c g := ⟨World.grownBy.trans h.1 k.1, k.2.trans h.2⟩
theorem Turned.refl (a : World) (g : Nat) : Turned a a g := ⟨World.grownBy.refl a _, rfl⟩

set_option maxHeartbeats 800000 in
theorem ends_any (g t : Nat) (h : List Int) (c : Int) (rest : List Value) (w : World) (hc0 : 0 ≤ c) (hc1 : c ≤ 255) (hl : h.length ≤ 1000000) (hr : EdgeAt w g t h rest) :
    Calls Try.prog 58 #[.pointer (some ⟨g, 0, none⟩), .int .u8 c] w fun e w' => e = .returned (.bool (endsB (h ++ [c]))) ∧ EdgeAt w' g t (h ++ [c]) rest ∧ Turned w w' g := by
  have h19 := Rol.nth hr 0
  have f19 := Rol.frozen hr 19
  have hset := Rol.set_ hr 0 (.int .i64 ((h.length : Int) + 1))
  have hT := Turned.setCell w g 19 (.int .i64 ((h.length : Int) + 1))
  simp only [Nat.add_zero, List.getElem?_cons_zero] at h19
  simp only [Nat.add_zero, List.set_cons_zero] at hset
  have HS := Lib.hid hset
  have HT := Lib.hid hT
  clear hset hT hr
  go_enter Try.func58, Try.ntmps58
  go_wp2_with fail
  refine (push_any _ _ h c _ _ hc0 hc1 HS.out).mono ?_
  rintro e w2 ⟨rfl, hr2, hT2⟩
  have hT3 := HT.out.trans hT2
  have h19b := Rol.nth hr2 0
  simp only [Nat.add_zero, List.getElem?_cons_zero] at h19b
  have hed : EdgeAt w2 g t (h ++ [c]) rest := by
    unfold EdgeAt
    rw [List.length_append, List.length_singleton]
    exact hr2
  have HE := Lib.hid hed
  have HT3 := Lib.hid hT3
  clear hr2 hT2 hT3 hed h19 f19 HS HT
  obtain ⟨s, hs⟩ : ∃ s, sumB (last16 (h ++ [c])) = s := ⟨_, rfl⟩
  have hsr := sumB_range (last16 (h ++ [c]))
  have hfin : endsB (h ++ [c]) = (decide (h.length + 1 = 1024) || (decide (64 ≤ h.length + 1) && decide (s / 16777216 = 0))) := by
    unfold endsB
    rw [hs, List.length_append, List.length_singleton]
  rw [hs] at hsr ⊢
  obtain ⟨hs0, hs1⟩ := hsr
  have HF := Lib.hid hfin
  clear hs hfin
  by_cases a1 : h.length + 1 = 1024
  · have b1 : ((h.length : Int) + 1 == 1024) = true := beq_iff_eq.2 (by omega)
    have hv : (decide (h.length + 1 = 1024) || (decide (64 ≤ h.length + 1) && decide (s / 16777216 = 0))) = true := by simp [a1]
    have HV := Lib.hid (HF.out.trans hv)
    clear hv a1
    go_wp2_with fail
    go_ret
    exact ⟨by rw [HV.out]; rfl, HE.out, HT3.out⟩
  · have b1 : ((h.length : Int) + 1 == 1024) = false := beq_eq_false_iff_ne.2 (by omega)
    by_cases a2 : 64 ≤ h.length + 1
    · have b2 : decide ((64 : Int) ≤ (h.length : Int) + 1) = true := by simp; omega
      have hv : (decide (h.length + 1 = 1024) || (decide (64 ≤ h.length + 1) && decide (s / 16777216 = 0))) = (s / 16777216 == 0) := by
        rw [decide_eq_false a1, decide_eq_true a2]
        rfl
      have HV := Lib.hid (HF.out.trans hv)
      clear hv a1
      obtain ⟨q, hq⟩ : ∃ q, s / 16777216 = q := ⟨_, rfl⟩
      go_wp2_with fail
      go_ret
      exact ⟨by rw [HV.out, hq]; rfl, HE.out, HT3.out⟩
    · have b2 : decide ((64 : Int) ≤ (h.length : Int) + 1) = false := by simp; omega
      have hv : (decide (h.length + 1 = 1024) || (decide (64 ≤ h.length + 1) && decide (s / 16777216 = 0))) = false := by
        rw [decide_eq_false a1, decide_eq_false a2]
        rfl
      have HV := Lib.hid (HF.out.trans hv)
      clear hv a1
      go_wp2_with fail
      go_ret
      exact ⟨by rw [HV.out]; rfl, HE.out, HT3.out⟩

/-! ### fresh -/
/-- The cells of a new roller, of a new edge, of an edge that is nothing. -/
def roll0 : Array Value := (rollCells (List.replicate 16 0) 0 0).toArray
def edge0 : Array Value := (rollCells (List.replicate 16 0) 0 0 ++ [Value.int .i64 0]).toArray
def edgeN : Array Value := (nums .u8 (List.replicate 16 0) ++ [Value.int .i64 0, Value.int .u32 0, Value.bool false, Value.int .i64 0]).toArray
/-- What New hands back, its cells. -/
def NewB (w : World) (e : Ending) (w' : World) : Prop := ∃ g, e = .returned (.pointer (some ⟨g, 0, none⟩)) ∧ w.heap.size ≤ g ∧ Blk w' g 53 roll0 ∧ Below w.heap.size w w'
theorem rnew_B (w : World) : Calls Try.prog 37 #[] w fun e w' => NewB w e w' := by
  refine (rnew_any w).mono ?_
  rintro e w' ⟨rfl, hw⟩
  exact ⟨_, rfl, Nat.le_refl _, by rw [hw]; exact Blk.new w 53 _, by rw [hw]; exact (Below.refl _ _).alloc (Nat.le_refl _) _⟩
set_option maxHeartbeats 800000 in
set_option maxRecDepth 100000 in
theorem fresh_any (w : World) : Calls Try.prog 52 #[] w fun e w' => e = .returned (.agg edge0) ∧ Below w.heap.size w w' := by
  have hb0 : Blk (w.alloc (.cells edgeN 68)) w.heap.size 68 edgeN := Blk.new w 68 edgeN
  have hB0 : Below w.heap.size w (w.alloc (.cells edgeN 68)) := (Below.refl _ _).alloc (Nat.le_refl _) _
  have hz0 : w.heap.size < (w.alloc (.cells edgeN 68)).heap.size := by simp
  have H0 := Lib.hid hb0
  have HB0 := Lib.hid hB0
  have HZ0 := Lib.hid hz0
  clear hb0 hB0 hz0
  go_enter Try.func52, Try.ntmps52
  go_wp2_with fail
  refine (rnew_B (w.alloc (.cells edgeN 68))).mono ?_
  rintro e w1 ⟨g, rfl, hg, hb1, hB1⟩
  have hb2 : Blk w1 w.heap.size 68 edgeN := H0.out.below hB1 HZ0.out
  have HB1 := Lib.hid (HB0.out.trans (hB1.mono (Nat.le_of_lt HZ0.out)))
  have hbig : w1.heap[g]? = some (.cells roll0 53 (0, 0)) := hb1
  have hold : w1.heap[w.heap.size]? = some (.cells edgeN 68 (0, 0)) := hb2
  have HG := Lib.hid hbig
  have HO := Lib.hid hold
  clear hB1 hb1 hb2 hbig hold hg
  go_wp2_with (first | (refine wpList_load_row rfl 53 _ rfl g rfl 53 roll0 (0, 0) _ HG.out Try.underlying53 rfl (by kernel_rfl) ?_) | (refine wpList_store_row rfl 68 _ _ rfl w.heap.size edge0 rfl rfl 68 edgeN HO.out (by kernel_rfl) rfl (by kernel_rfl) ?_))
  refine bodyPost_ret (v := .agg edge0) ?_ rfl ⟨rfl, below_setRow HB1.out (Nat.le_refl _) _⟩
  exact results_cell_row Try.results52 _ _ w.heap.size 68 edge0 (0, 0) _ rfl (setRow_heap _ _ _ _ _ _ HO.out) Try.underlying68 rfl (by kernel_rfl)
end Go.Proofs.Ytneieogpdjlnbaa
