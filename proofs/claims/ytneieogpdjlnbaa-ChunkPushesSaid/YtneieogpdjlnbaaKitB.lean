/- The walks of package satchelkit's LentBytes, KeptBytes, OverBytes. Conditions: those that each statement names. -/
import Derived.Test.YtneieogpdjlnbaaKitA
import Derived.Laws.CopyOwn
set_option linter.unusedVariables false
set_option linter.unusedSimpArgs false
namespace Go.Proofs.Ytneieogpdjlnbaa
open Go.RowKit Go.Proofs.YtneieogpdjlnbaaW.PrintWords

/-- The marks behind bytes that are lent. -/
def markL (n : Nat) : List Int := [160 + (n : Int) % 90, 160 + ((n : Int) + 1) % 90, 160 + ((n : Int) + 2) % 90]
def lentL (xs : List Int) (j : Nat) : List Int := xs ++ (markL xs.length).take j ++ List.replicate (3 - j) 0
theorem lentL_full (xs : List Int) : lentL xs 3 = xs ++ markL xs.length := by simp [lentL, markL]
theorem lentL_zero (xs : List Int) : lentL xs 0 = xs ++ [0, 0, 0] := by simp [lentL, List.replicate]
theorem lentL_length (xs : List Int) (j : Nat) (hj : j ≤ 3) : (lentL xs j).length = xs.length + 3 := by
  simp [lentL, markL]; omega
theorem lentL_set (xs : List Int) (j k : Nat) (hj : j < 3) (hk : k = xs.length + j) : (lentL xs j).set k (160 + (k : Int) % 90) = lentL xs (j + 1) := by
  subst hk
  rcases (show j = 0 ∨ j = 1 ∨ j = 2 by omega) with rfl | rfl | rfl <;> simp [lentL, markL, List.replicate, List.set_append]
theorem markL_bytes (n : Nat) : IsBytes (markL n) := by
  intro x hx
  simp [markL] at hx
  omega

/-- What LentBytes leaves: a new block of these bytes and the marks. -/
def Lent (w : World) (g : Nat) (xs : List Int) : Prop := Blk w g 5 (nums .u8 (xs ++ markL xs.length)).toArray
def LentR (w w' : World) (e : Ending) (xs : List Int) : Prop := e = .returned (.slice (some ⟨w.heap.size, 0, none⟩) xs.length (xs.length + 3)) ∧ Lent w' w.heap.size xs

theorem info5s : (Try.prog.info? 5).map (·.size) = some 1 := by kernel_rfl
set_option maxHeartbeats 800000 in
theorem lent_any (B cap : Nat) (A : Option Addr) (xs : List Int) (w : World) (hr : RdB w B A xs) (hl : xs.length ≤ 100000000) :
    Calls Try.prog 19 #[.slice A xs.length cap] w fun e w' => LentR w w' e xs ∧ Below w.heap.size w w' := by
  have hmk := mk_zeros (xs.length + 3) (by omega)
  rw [show ((xs.length + 3 : Nat) : Int) = (xs.length : Int) + 3 from by omega] at hmk
  have HR := Lib.hid (hr.rdS.rdB)
  clear hr
  have hsrc : 0 < (nums .u8 xs).length → ∃ ad, A = some ad ∧ ∀ j v, (nums .u8 xs)[j]? = some v → (w.alloc (.cells (zerosB (xs.length + 3)) 5)).cell? (ad.add j) = some v := by
    intro hp
    rw [nums_length] at hp
    obtain ⟨ad, e, hb, hc⟩ := HR.out.2.2 hp
    refine ⟨ad, e, fun j v hv => ?_⟩
    have hj : j < xs.length := by
      rcases Nat.lt_or_ge j xs.length with h | h
      · exact h
      · simp [nums, List.getElem?_eq_none h] at hv
    simp [nums, List.getElem?_eq_getElem hj] at hv
    subst hv
    rw [World.cell?_alloc_lt _ _ _ (by rw [block_of_add]; exact hb), hc j hj]
    simp [List.getD_eq_getElem?_getD, List.getElem?_eq_getElem hj]
  have hnew : (w.alloc (.cells (zerosB (xs.length + 3)) 5)).heap[w.heap.size]? = some (.cells (nums .u8 (List.replicate (xs.length + 3) 0)).toArray 5 (0, 0)) := Blk.new w 5 (zerosB (xs.length + 3))
  have HN := Lib.hid hnew
  have HS := Lib.hid hsrc
  clear hnew hsrc
  go_enter Try.func19, Try.ntmps19
  go_wp2_with (refine wpList_copy_splice rfl _ _ 22 22 rfl 5 Try.underlying22 info5s _ A (xs.length + 3) (xs.length + 3) xs.length cap rfl rfl w.heap.size 0 _ 5 HN.out (nums .u8 xs) (by rw [nums_length]; exact (Nat.min_eq_left (by omega)).symm) (fun hp => ⟨rfl, HS.out hp⟩) (by simp [nums]) (nums_one xs) w.heap.size w ((Below.refl _ _).alloc (Nat.le_refl _) _) (Nat.le_refl _) ?_; intro w1 hb1 hB1)
  have hb2 : Blk w1 w.heap.size 5 (nums .u8 (lentL xs 0)).toArray := by
    have h := hb1.out
    have e : splice (nums .u8 (List.replicate (xs.length + 3) 0)) 0 (nums .u8 xs) = nums .u8 (lentL xs 0) := by
      rw [lentL_zero]
      simp [splice, nums]
    rw [e] at h
    exact h
  have HB2 := Lib.hid hb2
  have HBB := Lib.hid hB1
  clear hb1 hb2 hB1 hmk
  go_loopw [4] (fun i wr => ∃ (k j : Nat), j ≤ 3 ∧ Hid (k = xs.length + j) ∧ k ≤ xs.length + 3 ∧ i = .int .i64 k ∧ Hid (Blk wr w.heap.size 5 (nums .u8 (lentL xs j)).toArray) ∧ Hid (Below w.heap.size w wr)) (fun i _ => xs.length + 3 - (intOf i).toNat)
  case atStart => exact ⟨xs.length, 0, by omega, rfl, by omega, rfl, HB2, HBB⟩
  case round =>
    obtain ⟨k, j, hj, hk, hk3, rfl, HBr, HBBr⟩ := hrel
    by_cases hlt : k < xs.length + 3
    · have hj3 : j < 3 := by have := hk.out; omega
      have hfz := HBr.out.frozen k
      have hcl : wr.cell? ⟨w.heap.size, k, none⟩ = some (.int .u8 ((lentL xs j).getD k 0)) := by
        rw [HBr.out.cell k]
        simp [nums, List.getD_eq_getElem?_getD, List.getElem?_eq_getElem (show k < (lentL xs j).length by rw [lentL_length xs j hj]; exact hlt)]
      have hset := HBr.out.set_ k (.int .u8 (160 + (k : Int) % 90))
      have e : (nums .u8 (lentL xs j)).toArray.setIfInBounds k (.int .u8 (160 + (k : Int) % 90)) = (nums .u8 (lentL xs (j + 1))).toArray := by
        rw [← lentL_set xs j k hj3 hk.out]
        simp [nums, List.map_set]
      rw [e] at hset
      have HSET := Lib.hid hset
      have HB2' := Lib.hid (HBBr.out.setCell (p := ⟨w.heap.size, k, none⟩) (Nat.le_refl _) (.int .u8 (160 + (k : Int) % 90)))
      clear e hset
      have hkI : (k : Int) < (xs.length : Int) + 3 := by omega
      have hm0 : 0 ≤ (k : Int) % 90 := by omega
      have hm1 : (k : Int) % 90 ≤ 89 := by omega
      go_wp2
      go_roundw
      case rel => exact ⟨k + 1, j + 1, by omega, by have := hk.out; show k + 1 = xs.length + (j + 1); omega, by omega, by go_num, HSET, HB2'⟩
      case measure => simp [intOf]; omega
    · have hj3 : j = 3 := by have := hk.out; omega
      subst hj3
      obtain ⟨hcut, hcl, hcr⟩ := cutT (some ⟨w.heap.size, 0, none⟩) (xs.length + 3) (xs ++ markL xs.length) xs xs.length (by omega) (by simp [markL]; omega) (by simp [markL]) (by simp)
      rw [show (xs ++ markL xs.length).length = xs.length + 3 from by simp [markL]] at hcut
      have hL : Lent wr w.heap.size xs := by have := HBr.out; rw [lentL_full] at this; exact this
      have HL := Lib.hid hL
      clear hL hcl hcr
      go_wp2
      go_ret
      exact ⟨⟨rfl, HL.out⟩, HBBr.out⟩

theorem Lent.rd {w : World} {g : Nat} {xs : List Int} (h : Lent w g xs) (hb : IsBytes xs) (hl : xs.length ≤ 100000000) : RdS w (· = g) (some ⟨g, 0, none⟩) (xs ++ markL xs.length) :=
  ⟨fun x hx => by
    rw [List.mem_append] at hx
    rcases hx with hx | hx
    · exact hb x hx
    · exact markL_bytes _ x hx, by simp [markL]; omega, fun hp => ⟨_, rfl, rfl, fun j hj => by
    rw [add_plain, Blk.cell h j]
    have := nums_row (xs ++ markL xs.length) [] j hj
    rwa [List.append_nil] at this⟩⟩
theorem Lent.rd0 {w : World} {g : Nat} {xs : List Int} (h : Lent w g xs) (hb : IsBytes xs) (hl : xs.length ≤ 100000000) : RdS w (· = g) (some ⟨g, 0, none⟩) xs := by
  have := (h.rd hb hl)
  refine ⟨hb, by omega, fun hp => ⟨_, rfl, rfl, fun j hj => ?_⟩⟩
  obtain ⟨ad, e, _, hc⟩ := this.2.2 (by simp [markL])
  injection e with e
  subst e
  rw [hc j (by rw [List.length_append]; omega)]
  simp [List.getD_eq_getElem?_getD, List.getElem?_append_left hj]

theorem lentcap (g n m : Nat) (hm : m = n + 3) (W : World) :
    (Instr.slice 22 (.slice (some ⟨g, 0, none⟩) n (n + 3)) none (some (.int .i64 ((n : Int) + 3))) none).run Try.prog W = .ok (.slice (some ⟨g, 0, none⟩) m (n + 3)) W := by
  obtain ⟨i, hi, hsz⟩ := info22
  have hu : Try.prog.underlying 22 = some (.slice (Try.prog.elem 22)) := by kernel_rfl
  have hel : Try.prog.elem 22 = 5 := by kernel_rfl
  rw [run_slice_h W 22 _ n (n + 3) hu .i64 ((n : Int) + 3) (by omega) (by omega), hel]
  simp [sizeOf, typeInfo, hi, sliced, Result.andThen, Addr.add]
  omega
set_option maxHeartbeats 800000 in
theorem kept_any (g B cap : Nat) (A : Option Addr) (xs : List Int) (w : World) (hL : Lent w g xs) (hr : RdB w B A xs) (hl : xs.length ≤ 100000000) :
    Calls Try.prog 26 #[.slice (some ⟨g, 0, none⟩) xs.length (xs.length + 3), .slice A xs.length cap] w fun e w' => e = .returned (.bool true) ∧ Below w.heap.size w w' := by
  obtain ⟨ys, hys⟩ : ∃ ys, xs ++ markL xs.length = ys := ⟨_, rfl⟩
  have hyl : ys.length = xs.length + 3 := by rw [← hys]; simp [markL]
  have hc := fun g W => lentcap g xs.length ys.length hyl W
  have HR := Lib.hid hr.rdS.rdB
  have HYS := Lib.hid hys
  have HL := Lib.hid hL
  have HB0 := Lib.hid (Below.refl w.heap.size w)
  have hbx := Lib.hid hr.1
  have hg := Lib.hid (Blk.lt hL)
  clear hr hys hL hyl
  have hsame : ∀ (g2 : Nat) (W : World), Below w.heap.size w W → Lent W g2 xs → Calls Try.prog 42 #[.slice (some ⟨g, 0, none⟩) ys.length (xs.length + 3), .slice (some ⟨g2, 0, none⟩) ys.length (xs.length + 3)] W fun e w' => e = .returned (.bool true) ∧ W = w' := by
    intro g2 W hB hL2
    have h1 : Lent W g xs := Blk.below HL.out hB hg.out
    have r1 := (h1.rd hbx.out hl).rdB
    have r2 := (hL2.rd hbx.out hl).rdB
    rw [HYS.out] at r1 r2
    have := same_any _ _ (xs.length + 3) (xs.length + 3) _ _ _ _ W r1 r2
    simpa using this
  have HS := Lib.hid hsame
  clear hsame
  have hq1 : IntKind.i64.wrap ((xs.length : Int) + 3) = (xs.length : Int) + 3 := by rw [IntKind.wrap_i64]; omega
  have hq2 : 0 ≤ (xs.length : Int) + 3 := by omega
  go_enter Try.func26, Try.ntmps26
  go_wp2_with fail
  go_region_held3 (fun W => Below w.heap.size w W) (first | assumption | exact (Below.refl _ _).drew) (first | (go_at_call 19; refine (lent_any _ _ _ xs _ (HR.out.below (by assumption)) hl).mono ?_; rintro e w2 ⟨⟨rfl, hL2⟩, hB2⟩; have hB3 : Below w.heap.size w w2 := Below.trans (by assumption) (hB2.mono (Below.size (by assumption)))) | (go_at_call 42; refine (HS.out _ _ (by assumption) (by assumption)).mono ?_; rintro e w3 ⟨rfl, rfl⟩))
  go_wp2_with fail
  go_ret
  exact ⟨rfl, hB3⟩

/-! ### OverBytes -/
theorem xor_bd (x : Int) (h0 : 0 ≤ x) (h1 : x ≤ 255) : 0 ≤ bits BinOp.xor IntKind.u8 x 90 ∧ bits BinOp.xor IntKind.u8 x 90 ≤ 255 := by
  have h : ∀ k : Fin 256, 0 ≤ bits BinOp.xor IntKind.u8 (k.val : Int) 90 ∧ bits BinOp.xor IntKind.u8 (k.val : Int) 90 ≤ 255 := by decide +kernel
  obtain ⟨n, rfl⟩ := Int.eq_ofNat_of_zero_le h0
  exact h ⟨n, by omega⟩
/-- Block g is bytes, cap of them. -/
def ByteBlk (w : World) (g cap : Nat) : Prop := ∃ zs : List Int, IsBytes zs ∧ zs.length = cap ∧ Blk w g 5 (nums .u8 zs).toArray
theorem ByteBlk.lt {w : World} {g cap : Nat} (h : ByteBlk w g cap) : g < w.heap.size := by
  obtain ⟨_, _, _, hb⟩ := h
  exact hb.lt
theorem ByteBlk.keep {w w' : World} {g cap : Nat} (h : ByteBlk w g cap) (hk : w'.heap[g]? = w.heap[g]?) : ByteBlk w' g cap := by
  obtain ⟨zs, a, b, hb⟩ := h
  exact ⟨zs, a, b, hk.trans hb⟩
theorem capcut (g n cap : Nat) (W : World) :
    (Instr.slice 22 (.slice (some ⟨g, 0, none⟩) n cap) none (some (.int .i64 (cap : Int))) none).run Try.prog W = .ok (.slice (some ⟨g, 0, none⟩) cap cap) W := by
  obtain ⟨i, hi, hsz⟩ := info22
  have hu : Try.prog.underlying 22 = some (.slice (Try.prog.elem 22)) := by kernel_rfl
  have hel : Try.prog.elem 22 = 5 := by kernel_rfl
  rw [run_slice_h W 22 _ n cap hu .i64 (cap : Int) (by omega) (by omega), hel]
  simp [sizeOf, typeInfo, hi, sliced, Result.andThen, Addr.add]
set_option maxHeartbeats 800000 in
theorem over_any (g n cap : Nat) (w : World) (hb : ByteBlk w g cap) (hcap : cap ≤ maxLen) :
    Calls Try.prog 48 #[.slice (some ⟨g, 0, none⟩) n cap] w fun e w' => e = .returned (.tuple #[]) ∧ ByteBlk w' g cap ∧ Turned w w' g := by
  unfold maxLen at hcap
  have hc := capcut g n cap
  have HB0 := Lib.hid hb
  have HT0 : Hid (Turned w w g) := ⟨World.grownBy.refl w _, rfl⟩
  clear hb
  go_enter Try.func48, Try.ntmps48
  go_wp2_with fail
  clear hc
  go_loopw [3] (fun i wr => ∃ k : Nat, k ≤ cap ∧ i = .int .i64 k ∧ Hid (ByteBlk wr g cap) ∧ Hid (Turned w wr g)) (fun i _ => cap - (intOf i).toNat)
  case atStart => exact ⟨0, by omega, rfl, HB0, HT0⟩
  case round =>
    obtain ⟨k, hk, rfl, HBr, HTr⟩ := hrel
    by_cases hlt : k < cap
    · obtain ⟨zs, hz, hzl, hblk⟩ := HBr.out
      have hfz := hblk.frozen k
      have hcl : wr.cell? ⟨g, k, none⟩ = some (.int .u8 (zs.getD k 0)) := by
        rw [hblk.cell k]
        have := nums_row zs [] k (by omega)
        rwa [List.append_nil] at this
      obtain ⟨x0, x1⟩ := hz.at_ k
      obtain ⟨x, hx⟩ : ∃ x, zs.getD k 0 = x := ⟨_, rfl⟩
      rw [hx] at hcl x0 x1
      obtain ⟨y0, y1⟩ := xor_bd x x0 x1
      obtain ⟨y, hy⟩ : ∃ y, bits BinOp.xor IntKind.u8 x 90 = y := ⟨_, rfl⟩
      rw [hy] at y0 y1
      have hset := hblk.set_ k (.int .u8 y)
      have e : (nums .u8 zs).toArray.setIfInBounds k (.int .u8 y) = (nums .u8 (zs.set k y)).toArray := by simp [nums, List.map_set]
      rw [e] at hset
      have hnew : ByteBlk (wr.setCell ⟨g, k, none⟩ (.int .u8 y)) g cap := ⟨_, fun z hzz => by
        rcases List.mem_or_eq_of_mem_set hzz with h | h
        · exact hz z h
        · rw [h]; exact ⟨y0, y1⟩, by rw [List.length_set]; exact hzl, hset⟩
      have hturn : Turned w (wr.setCell ⟨g, k, none⟩ (.int .u8 y)) g := ⟨only_setCell HTr.out.1 (.inl rfl) _, by simpa [World.setCell] using HTr.out.2⟩
      have HN := Lib.hid hnew
      have HT := Lib.hid hturn
      have hy' : bits BinOp.xor IntKind.u8 x 90 = y := hy
      clear hx e hset hnew hturn hblk hz hzl hy
      go_wp2
      go_roundw
      case rel => exact ⟨k + 1, by omega, by go_num, HN, HT⟩
      case measure => simp [intOf]; omega
    · go_wp2
      go_end0
      exact ⟨rfl, HBr.out, HTr.out⟩
set_option maxHeartbeats 400000 in
theorem over_nil (w : World) : Calls Try.prog 48 #[.slice none 0 0] w fun e w' => e = .returned (.tuple #[]) ∧ w = w' := by
  have hc : ∀ W, (Instr.slice 22 (.slice none 0 0) none (some (.int .i64 0)) none).run Try.prog W = .ok (.slice none 0 0) W := fun W => by
    obtain ⟨i, hi, hsz⟩ := info22
    have hu : Try.prog.underlying 22 = some (.slice (Try.prog.elem 22)) := by kernel_rfl
    have hel : Try.prog.elem 22 = 5 := by kernel_rfl
    rw [run_slice_h W 22 _ 0 0 hu .i64 0 (by omega) (by omega), hel]
    simp [sizeOf, typeInfo, hi, sliced, Result.andThen]
  go_enter Try.func48, Try.ntmps48
  go_wp2_with fail
  clear hc
  go_loop [3] (fun i => i = .int .i64 0) (fun _ => 0)
  case atStart => rfl
  case round =>
    obtain rfl := hrel
    go_wp2
    go_end0
    exact ⟨rfl, rfl⟩
end Go.Proofs.Ytneieogpdjlnbaa
