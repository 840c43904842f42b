/- The walks of package roll's Roller. Conditions: those that each statement names. -/
import Derived.Test.YtneieogpdjlnbaaRollA
import Derived.Outline
set_option linter.unusedVariables false
set_option linter.unusedSimpArgs false
namespace Go.Proofs.Ytneieogpdjlnbaa
open Go.RowKit Go.Proofs.YtneieogpdjlnbaaW.PrintWords

def rollCells (ring : List Int) (n s : Int) : List Value := nums .u8 ring ++ [.int .i64 n, .int .u32 s, .bool true]

theorem same' {P : Program} {f : FuncId} {args : Array Value} {w : World} {v : Value} (h : Calls P f args w fun e w' => e = .returned v ∧ w = w') : Calls P f args w fun e w' => e = .returned v ∧ w' = w := h.mono fun _ _ ⟨a, b⟩ => ⟨a, b.symm⟩
theorem rollCells_ring {ring : List Int} {n s : Int} {rest : List Value} (hl : ring.length = 16) (j : Nat) (hj : j < 16) : (rollCells ring n s ++ rest).toArray[j]? = some (.int .u8 (ring.getD j 0)) := by
  unfold rollCells
  simp [nums, List.getElem?_append, hl, hj, List.getD_eq_getElem?_getD, List.getElem?_eq_getElem (show j < ring.length by omega)]
theorem rollCells_n {ring : List Int} {n s : Int} {rest : List Value} (hl : ring.length = 16) : (rollCells ring n s ++ rest).toArray[16]? = some (.int .i64 n) := by
  unfold rollCells
  simp [nums, List.getElem?_append, hl]
theorem rollCells_s {ring : List Int} {n s : Int} {rest : List Value} (hl : ring.length = 16) : (rollCells ring n s ++ rest).toArray[17]? = some (.int .u32 s) := by
  unfold rollCells
  simp [nums, List.getElem?_append, hl]
theorem rollCells_m {ring : List Int} {n s : Int} {rest : List Value} (hl : ring.length = 16) : (rollCells ring n s ++ rest).toArray[18]? = some (.bool true) := by
  unfold rollCells
  simp [nums, List.getElem?_append, hl]

theorem set_sum {ring : List Int} {n s x : Int} {rest : List Value} (hl : ring.length = 16) : (rollCells ring n s ++ rest).toArray.setIfInBounds 17 (.int .u32 x) = (rollCells ring n x ++ rest).toArray := by
  unfold rollCells
  simp [nums, List.set_append, hl]
theorem set_n {ring : List Int} {n s x : Int} {rest : List Value} (hl : ring.length = 16) : (rollCells ring n s ++ rest).toArray.setIfInBounds 16 (.int .i64 x) = (rollCells ring x s ++ rest).toArray := by
  unfold rollCells
  simp [nums, List.set_append, hl]
theorem set_ring {ring : List Int} {n s x : Int} {rest : List Value} (hl : ring.length = 16) (j : Nat) (hj : j < 16) : (rollCells ring n s ++ rest).toArray.setIfInBounds j (.int .u8 x) = (rollCells (ring.set j x) n s ++ rest).toArray := by
  unfold rollCells
  simp [nums, List.set_append, hl, hj, List.map_set]
/-- What a store into a known block leaves. -/
theorem step_set {w W : World} {g t : Nat} {cs cs' : Array Value} {j : Nat} {u : Value} (hb : Blk W g t cs) (hg : w.grownBy W (some g)) (hz : W.heap.size = w.heap.size) (hc : cs.setIfInBounds j u = cs') :
    Blk (W.setCell ⟨g, j, none⟩ u) g t cs' ∧ w.grownBy (W.setCell ⟨g, j, none⟩ u) (some g) ∧ (W.setCell ⟨g, j, none⟩ u).heap.size = w.heap.size :=
  ⟨hc ▸ hb.set_ j u, only_setCell hg (.inl rfl) u, by simpa [World.setCell] using hz⟩

set_option maxHeartbeats 400000 in
theorem none_made (g : Nat) (w : World) (hm : w.cell? ⟨g, 18, none⟩ = some (.bool true)) : Calls Try.prog 55 #[.pointer (some ⟨g, 0, none⟩)] w fun e w' => e = .returned (.bool false) ∧ w = w' := by
  go_enter Try.func55, Try.ntmps55
  go_wp2
  go_ret
  exact ⟨rfl, rfl⟩
set_option maxHeartbeats 400000 in
theorem none_unmade (g : Nat) (w : World) (hm : w.cell? ⟨g, 18, none⟩ = some (.bool false)) : Calls Try.prog 55 #[.pointer (some ⟨g, 0, none⟩)] w fun e w' => e = .returned (.bool true) ∧ w = w' := by
  go_enter Try.func55, Try.ntmps55
  go_wp2
  go_ret
  exact ⟨rfl, rfl⟩
set_option maxHeartbeats 400000 in
theorem none_nil (w : World) : Calls Try.prog 55 #[.pointer none] w fun e w' => e = .returned (.bool true) ∧ w = w' := by
  go_enter Try.func55, Try.ntmps55
  go_wp2
  go_ret
  exact ⟨rfl, rfl⟩

set_option maxHeartbeats 400000 in
theorem rnew_any (w : World) : Calls Try.prog 37 #[] w fun e w' => e = .returned (.pointer (some ⟨w.heap.size, 0, none⟩)) ∧ w' = w.alloc (.cells (rollCells (List.replicate 16 0) 0 0).toArray 53) := by
  go_enter Try.func37, Try.ntmps37
  go_wp2
  go_ret
  exact ⟨rfl, rfl⟩

set_option maxHeartbeats 400000 in
theorem push_one (g t : Nat) (ring : List Int) (k : Nat) (s c x : Int) (rest : List Value) (w : World) (hl : ring.length = 16) (hk : k < 16) (hs0 : 0 ≤ s) (hs1 : s < 4294967296) (hc0 : 0 ≤ c) (hc1 : c ≤ 255)
    (hx : (s * 3 + wt c) % 4294967296 = x) (hb : Blk w g t (rollCells ring k s ++ rest).toArray) :
    Calls Try.prog 39 #[.pointer (some ⟨g, 0, none⟩), .int .u8 c] w fun e w' => e = .returned (.int .u32 x) ∧ Blk w' g t (rollCells (ring.set k c) (k + 1 : Nat) x ++ rest).toArray ∧ w.grownBy w' (some g) ∧ w'.heap.size = w.heap.size := by
  have h16 := (hb.cell 16).trans (rollCells_n hl)
  have h17 := (hb.cell 17).trans (rollCells_s hl)
  have h18 := (hb.cell 18).trans (rollCells_m hl)
  have f17 := hb.frozen 17
  have HB := Lib.hid hb
  clear hb
  have HL := Lib.hid hl
  clear hl
  have hxe : (s * 3 % 4294967296 + wt c) % 4294967296 = x := by rw [← hx]; omega
  have HX := Lib.hid hxe
  clear hx hxe
  go_enter Try.func39, Try.ntmps39
  go_wp2_with fail
  refine (none_made _ _ h18).mono ?_
  rintro e w' ⟨rfl, rfl⟩
  go_wp2_with fail
  refine wp_region_still_tail 11 (by kernel_rfl) (by kernel_rfl) ?_
  simp only [List.take_succ_cons, List.take_zero, List.drop_succ_cons, List.drop_zero]
  iterate 7 still_step
  still_call (same' (weight_any _ _ hc0 hc1))
  repeat still_step
  refine wpStill_nil ?_
  change wpList _ _ _ _ _ w.drew
  go_wp2_with fail
  rw [HX.out]
  obtain ⟨hb1, hg1, hz1⟩ := step_set (u := .int .u32 x) HB.out (World.grownBy.refl w (some g)) rfl (set_sum (x := x) HL.out)
  replace hb1 := hb1.drew
  replace hg1 := only_drew hg1
  replace hz1 : (w.setCell ⟨g, 17, none⟩ (.int .u32 x)).drew.heap.size = w.heap.size := hz1
  generalize (w.setCell ⟨g, 17, none⟩ (.int .u32 x)).drew = w1 at hb1 hg1 hz1 ⊢
  clear h16 h17 h18 f17
  have i16 := (hb1.cell 16).trans (rollCells_n HL.out)
  have ik := (hb1.cell k).trans (rollCells_ring HL.out k hk)
  have fk := hb1.frozen k
  have HB1 := Lib.hid hb1
  have HG1 := Lib.hid hg1
  have HZ1 := Lib.hid hz1
  clear hb1 hg1 hz1
  have hm : (k : Int).tmod 16 = k := by rw [Int.tmod_eq_emod_of_nonneg (by omega)]; omega
  refine wp_region_still_tail 10 (by kernel_rfl) (by kernel_rfl) ?_
  simp only [List.take_succ_cons, List.take_zero, List.drop_succ_cons, List.drop_zero]
  repeat still_step
  refine wpStill_nil ?_
  change wpList _ _ _ _ _ w1.drew
  clear hm
  go_upto_region 7 with (fail)
  obtain ⟨hb2, hg2, hz2⟩ := step_set (j := k) (u := .int .u8 c) HB1.out HG1.out HZ1.out (set_ring HL.out k hk)
  replace hb2 := hb2.drew
  replace hg2 := only_drew hg2
  replace hz2 : (w1.setCell ⟨g, k, none⟩ (.int .u8 c)).drew.heap.size = w.heap.size := hz2
  generalize (w1.setCell ⟨g, k, none⟩ (.int .u8 c)).drew = w2 at hb2 hg2 hz2 ⊢
  clear i16 ik fk
  have hl2 : (ring.set k c).length = 16 := by rw [List.length_set]; exact HL.out
  have j16 := (hb2.cell 16).trans (rollCells_n hl2)
  have j17 := (hb2.cell 17).trans (rollCells_s hl2)
  have f16 := hb2.frozen 16
  have HB2 := Lib.hid hb2
  have HG2 := Lib.hid hg2
  have HZ2 := Lib.hid hz2
  have HL2 := Lib.hid hl2
  clear hb2 hg2 hz2 hl2
  have hne : ((k : Int) + 1 == 32) = false := by simp; omega
  go_wp2_with fail
  go_ret
  have h3 := step_set (u := .int .i64 ((k : Int) + 1)) HB2.out HG2.out HZ2.out (set_n HL2.out)
  exact ⟨rfl, h3.1, h3.2.1, h3.2.2⟩

set_option maxHeartbeats 800000 in
theorem push_long (g t : Nat) (ring : List Int) (k k' j : Nat) (s o c x : Int) (rest : List Value) (w : World) (hl : ring.length = 16) (hk : 16 ≤ k) (hk2 : k < 32) (hj : j = k % 16) (hk' : k' = if k + 1 = 32 then 16 else k + 1)
    (ho : ring.getD j 0 = o) (ho0 : 0 ≤ o) (ho1 : o ≤ 255) (hs0 : 0 ≤ s) (hs1 : s < 4294967296) (hc0 : 0 ≤ c) (hc1 : c ≤ 255)
    (hx : rollB s o c = x) (hb : Blk w g t (rollCells ring k s ++ rest).toArray) :
    Calls Try.prog 39 #[.pointer (some ⟨g, 0, none⟩), .int .u8 c] w fun e w' => e = .returned (.int .u32 x) ∧ Blk w' g t (rollCells (ring.set j c) k' x ++ rest).toArray ∧ w.grownBy w' (some g) ∧ w'.heap.size = w.heap.size := by
  have hj16 : j < 16 := by omega
  have hjI : (j : Int) < 16 := by omega
  have hkI : decide ((k : Int) < 16) = false := by simp; omega
  have h16 := (hb.cell 16).trans (rollCells_n hl)
  have h17 := (hb.cell 17).trans (rollCells_s hl)
  have h18 := (hb.cell 18).trans (rollCells_m hl)
  have hoo := (hb.cell j).trans (rollCells_ring hl j hj16)
  rw [ho] at hoo
  have f17 := hb.frozen 17
  have HB := Lib.hid hb
  have HL := Lib.hid hl
  have hm : (k : Int).tmod 16 = j := by rw [Int.tmod_eq_emod_of_nonneg (by omega)]; omega
  have HM := Lib.hid hm
  have HX := Lib.hid hx
  have HK' := Lib.hid hk'
  have HJ := Lib.hid hj
  clear hb hl hm hx hk' ho hj
  go_enter Try.func39, Try.ntmps39
  go_wp2_with fail
  refine (none_made _ _ h18).mono ?_
  rintro e w' ⟨rfl, rfl⟩
  go_wp2_with fail
  have hm := HM.out
  refine wp_region_still_tail 19 (by kernel_rfl) (by kernel_rfl) ?_
  simp only [List.take_succ_cons, List.take_zero, List.drop_succ_cons, List.drop_zero]
  iterate 16 still_step
  still_call (same' (roll_any _ _ _ _ hs0 hs1 ho0 ho1 hc0 hc1))
  rw [HX.out]
  repeat still_step
  refine wpStill_nil ?_
  change wpList _ _ _ _ _ w.drew
  clear hm
  go_upto_region 6 with (fail)
  obtain ⟨hb1, hg1, hz1⟩ := step_set (u := .int .u32 x) HB.out (World.grownBy.refl w (some g)) rfl (set_sum (x := x) HL.out)
  replace hb1 := hb1.drew
  replace hg1 := only_drew hg1
  replace hz1 : (w.setCell ⟨g, 17, none⟩ (.int .u32 x)).drew.heap.size = w.heap.size := hz1
  generalize (w.setCell ⟨g, 17, none⟩ (.int .u32 x)).drew = w1 at hb1 hg1 hz1 ⊢
  clear h16 h17 h18 f17 hoo
  have i16 := (hb1.cell 16).trans (rollCells_n HL.out)
  have ik := (hb1.cell j).trans (rollCells_ring HL.out j hj16)
  have fk := hb1.frozen j
  have HB1 := Lib.hid hb1
  have HG1 := Lib.hid hg1
  have HZ1 := Lib.hid hz1
  clear hb1 hg1 hz1
  have hm := HM.out
  refine wp_region_still_tail 10 (by kernel_rfl) (by kernel_rfl) ?_
  simp only [List.take_succ_cons, List.take_zero, List.drop_succ_cons, List.drop_zero]
  repeat still_step
  refine wpStill_nil ?_
  change wpList _ _ _ _ _ w1.drew
  clear hm
  go_upto_region 7 with (fail)
  obtain ⟨hb2, hg2, hz2⟩ := step_set (j := j) (u := .int .u8 c) HB1.out HG1.out HZ1.out (set_ring HL.out j hj16)
  replace hb2 := hb2.drew
  replace hg2 := only_drew hg2
  replace hz2 : (w1.setCell ⟨g, j, none⟩ (.int .u8 c)).drew.heap.size = w.heap.size := hz2
  generalize (w1.setCell ⟨g, j, none⟩ (.int .u8 c)).drew = w2 at hb2 hg2 hz2 ⊢
  clear i16 ik fk
  have hl2 : (ring.set j c).length = 16 := by rw [List.length_set]; exact HL.out
  have j16 := (hb2.cell 16).trans (rollCells_n hl2)
  have j17 := (hb2.cell 17).trans (rollCells_s hl2)
  have f16 := hb2.frozen 16
  have HB2 := Lib.hid hb2
  have HG2 := Lib.hid hg2
  have HZ2 := Lib.hid hz2
  have HL2 := Lib.hid hl2
  clear hb2 hg2 hz2 hl2
  by_cases h32 : k + 1 = 32
  · have hne : ((k : Int) + 1 == 32) = true := by simp; omega
    have e16 : k' = 16 := by rw [HK'.out, if_pos h32]
    have E16 := Lib.hid e16
    clear e16 h32
    go_wp2_with fail
    go_ret
    have h3 := step_set (u := .int .i64 ((k : Int) + 1)) HB2.out HG2.out HZ2.out (set_n HL2.out)
    have h4 := step_set (u := .int .i64 16) h3.1 h3.2.1 h3.2.2 (set_n HL2.out)
    rw [E16.out]
    exact ⟨rfl, h4.1, h4.2.1, h4.2.2⟩
  · have hne : ((k : Int) + 1 == 32) = false := by simp; omega
    have e16 : k' = k + 1 := by rw [HK'.out, if_neg h32]
    have E16 := Lib.hid e16
    clear e16 h32
    go_wp2_with fail
    go_ret
    have h3 := step_set (u := .int .i64 ((k : Int) + 1)) HB2.out HG2.out HZ2.out (set_n HL2.out)
    rw [E16.out]
    exact ⟨rfl, h3.1, h3.2.1, h3.2.2⟩


/-! ### A roller, told by the bytes that came into it -/
/-- At the front of block g lies a roller that the bytes h came into; behind it the cells rest. -/
def Rol (w : World) (g t : Nat) (h : List Int) (rest : List Value) : Prop :=
  IsBytes h ∧ ∃ (ring : List Int) (n : Nat) (s : Int), RS h ring n s ∧ Blk w g t (rollCells ring n s ++ rest).toArray
/-- What a call on block g leaves of all else. -/
def Turned (w w' : World) (g : Nat) : Prop := w.grownBy w' (some g) ∧ w'.heap.size = w.heap.size

theorem push_any (g t : Nat) (h : List Int) (c : Int) (rest : List Value) (w : World) (hc0 : 0 ≤ c) (hc1 : c ≤ 255) (hr : Rol w g t h rest) :
    Calls Try.prog 39 #[.pointer (some ⟨g, 0, none⟩), .int .u8 c] w fun e w' => e = .returned (.int .u32 (sumB (last16 (h ++ [c])))) ∧ Rol w' g t (h ++ [c]) rest ∧ Turned w w' g := by
  obtain ⟨hb, ring, n, s, hs, hblk⟩ := hr
  have hsr : 0 ≤ s ∧ s < 4294967296 := by rw [hs.2.2.2]; exact sumB_range _
  by_cases hn : n < 16
  · have h2 := RS_short (c := c) hs hn
    refine (push_one g t ring n s c _ rest w hs.1 hn hsr.1 hsr.2 hc0 hc1 rfl hblk).mono ?_
    rintro e w' ⟨rfl, hk, hg, hz⟩
    exact ⟨by rw [h2.2.2.2], ⟨hb.snoc hc0 hc1, _, _, _, h2, hk⟩, hg, hz⟩
  · have h2 := RS_long (c := c) hs (by omega)
    have hob := RS_bytes hs hb (by omega)
    refine (push_long g t ring n _ (n % 16) s _ c _ rest w hs.1 (by omega) (RS_n hs).1 rfl rfl rfl hob.1 hob.2 hsr.1 hsr.2 hc0 hc1 rfl hblk).mono ?_
    rintro e w' ⟨rfl, hk, hg, hz⟩
    exact ⟨by rw [h2.2.2.2], ⟨hb.snoc hc0 hc1, _, _, _, h2, hk⟩, hg, hz⟩

set_option maxHeartbeats 400000 in
theorem push_nil (c : Int) (w : World) : Calls Try.prog 39 #[.pointer none, .int .u8 c] w fun e w' => e = .returned (.int .u32 0) ∧ w = w' := by
  go_enter Try.func39, Try.ntmps39
  go_wp2_with fail
  refine (none_nil _).mono ?_
  rintro e w' ⟨rfl, rfl⟩
  go_wp2_with fail
  go_ret
  exact ⟨rfl, rfl⟩
set_option maxHeartbeats 400000 in
theorem push_unmade (g : Nat) (c : Int) (w : World) (hm : w.cell? ⟨g, 18, none⟩ = some (.bool false)) : Calls Try.prog 39 #[.pointer (some ⟨g, 0, none⟩), .int .u8 c] w fun e w' => e = .returned (.int .u32 0) ∧ w = w' := by
  go_enter Try.func39, Try.ntmps39
  go_wp2_with fail
  refine (none_unmade _ _ hm).mono ?_
  rintro e w' ⟨rfl, rfl⟩
  go_wp2_with fail
  go_ret
  exact ⟨rfl, rfl⟩

set_option maxHeartbeats 400000 in
theorem rsumm_any (g t : Nat) (h : List Int) (rest : List Value) (w : World) (hr : Rol w g t h rest) :
    Calls Try.prog 40 #[.pointer (some ⟨g, 0, none⟩)] w fun e w' => e = .returned (.int .u32 (sumB (last16 h))) ∧ w = w' := by
  obtain ⟨hb, ring, n, s, hs, hblk⟩ := hr
  rw [← hs.2.2.2]
  have h17 := (hblk.cell 17).trans (rollCells_s hs.1)
  have h18 := (hblk.cell 18).trans (rollCells_m hs.1)
  clear hblk hs hb
  go_enter Try.func40, Try.ntmps40
  go_wp2_with fail
  refine (none_made _ _ h18).mono ?_
  rintro e w' ⟨rfl, rfl⟩
  go_wp2_with fail
  go_ret
  exact ⟨rfl, rfl⟩
set_option maxHeartbeats 400000 in
theorem rsumm_nil (w : World) : Calls Try.prog 40 #[.pointer none] w fun e w' => e = .returned (.int .u32 0) ∧ w = w' := by
  go_enter Try.func40, Try.ntmps40
  go_wp2_with fail
  refine (none_nil _).mono ?_
  rintro e w' ⟨rfl, rfl⟩
  go_wp2_with fail
  go_ret
  exact ⟨rfl, rfl⟩
set_option maxHeartbeats 400000 in
theorem rsumm_unmade (g : Nat) (w : World) (hm : w.cell? ⟨g, 18, none⟩ = some (.bool false)) : Calls Try.prog 40 #[.pointer (some ⟨g, 0, none⟩)] w fun e w' => e = .returned (.int .u32 0) ∧ w = w' := by
  go_enter Try.func40, Try.ntmps40
  go_wp2_with fail
  refine (none_unmade _ _ hm).mono ?_
  rintro e w' ⟨rfl, rfl⟩
  go_wp2_with fail
  go_ret
  exact ⟨rfl, rfl⟩

set_option maxHeartbeats 400000 in
theorem full_any (g t : Nat) (h : List Int) (rest : List Value) (w : World) (hr : Rol w g t h rest) :
    Calls Try.prog 41 #[.pointer (some ⟨g, 0, none⟩)] w fun e w' => e = .returned (.bool (decide (16 ≤ h.length))) ∧ w = w' := by
  obtain ⟨hb, ring, n, s, hs, hblk⟩ := hr
  have hn := (RS_n hs).2
  have h16 := (hblk.cell 16).trans (rollCells_n hs.1)
  have h18 := (hblk.cell 18).trans (rollCells_m hs.1)
  clear hblk hs hb
  have he : decide (16 ≤ h.length) = decide (16 ≤ (n : Int)) := by rw [decide_eq_decide]; omega
  rw [he]
  clear he hn
  go_enter Try.func41, Try.ntmps41
  go_wp2_with fail
  refine (none_made _ _ h18).mono ?_
  rintro e w' ⟨rfl, rfl⟩
  go_wp2_with fail
  go_ret
  exact ⟨by simp, rfl⟩
set_option maxHeartbeats 400000 in
theorem full_nil (w : World) : Calls Try.prog 41 #[.pointer none] w fun e w' => e = .returned (.bool false) ∧ w = w' := by
  go_enter Try.func41, Try.ntmps41
  go_wp2_with fail
  refine (none_nil _).mono ?_
  rintro e w' ⟨rfl, rfl⟩
  go_wp2_with fail
  go_ret
  exact ⟨rfl, rfl⟩
set_option maxHeartbeats 400000 in
theorem full_unmade (g : Nat) (w : World) (hm : w.cell? ⟨g, 18, none⟩ = some (.bool false)) : Calls Try.prog 41 #[.pointer (some ⟨g, 0, none⟩)] w fun e w' => e = .returned (.bool false) ∧ w = w' := by
  go_enter Try.func41, Try.ntmps41
  go_wp2_with fail
  refine (none_unmade _ _ hm).mono ?_
  rintro e w' ⟨rfl, rfl⟩
  go_wp2_with fail
  go_ret
  exact ⟨rfl, rfl⟩

end Go.Proofs.Ytneieogpdjlnbaa
