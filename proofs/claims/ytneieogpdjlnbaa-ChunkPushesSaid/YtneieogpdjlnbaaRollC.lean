/- The walks of awake (layer 5's examples) and of the reference's Last. Conditions: those that each statement names. -/
import Derived.Test.YtneieogpdjlnbaaRollB
set_option linter.unusedVariables false
set_option linter.unusedSimpArgs false
namespace Go.Proofs.Ytneieogpdjlnbaa
open Go.RowKit Go.Proofs.YtneieogpdjlnbaaW.PrintWords

theorem Rol.new (w : World) : Rol (w.alloc (.cells (rollCells (List.replicate 16 0) 0 0).toArray 53)) w.heap.size 53 [] [] :=
  ⟨fun x hx => by simp at hx, List.replicate 16 0, 0, 0, RS_nil, by
    have := Blk.new w 53 (rollCells (List.replicate 16 0) 0 0).toArray
    simpa using this⟩
theorem Rol.lt {w : World} {g t : Nat} {h : List Int} {rest : List Value} (hr : Rol w g t h rest) : g < w.heap.size := by
  obtain ⟨_, _, _, _, _, hb⟩ := hr
  exact hb.lt
theorem Rol.alloc {w : World} {g t : Nat} {h : List Int} {rest : List Value} (hr : Rol w g t h rest) (o : Obj) : Rol (w.alloc o) g t h rest := by
  obtain ⟨a, b, c, d, e, hb⟩ := hr
  exact ⟨a, b, c, d, e, hb.alloc o⟩
theorem Rol.drewN {w : World} {g t : Nat} {h : List Int} {rest : List Value} (hr : Rol w g t h rest) (n : Nat) : Rol (w.drewN n) g t h rest := hr
theorem Rol.below {w w' : World} {g t B : Nat} {h : List Int} {rest : List Value} (hr : Rol w g t h rest) (hb' : Below B w w') (hg : g < B) : Rol w' g t h rest := by
  obtain ⟨a, b, c, d, e, hb⟩ := hr
  exact ⟨a, b, c, d, e, hb.below hb' hg⟩
theorem Rol.grown {w w' : World} {g t : Nat} {h : List Int} {rest : List Value} {row : Option Nat} (hr : Rol w g t h rest) (hb' : w.grownBy w' row) (hg : some g ≠ row) : Rol w' g t h rest := by
  obtain ⟨a, b, c, d, e, hb⟩ := hr
  exact ⟨a, b, c, d, e, hb.grown hb' hg⟩
theorem Turned.below {w0 w w' : World} {g B : Nat} (hB : Below B w0 w) (hg : B ≤ g) (hl : B ≤ w.heap.size) (ht : Turned w w' g) : Below B w0 w' :=
  hB.grown ht.1 hl (fun k e => by cases e; exact hg)
theorem RdB.below {w w' : World} {B : Nat} {A : Option Addr} {xs : List Int} (h : RdB w B A xs) (hb : Below B w w') : RdB w' B A xs :=
  ⟨h.1, h.2.1, fun hp => by
    obtain ⟨ad, e, hl, hc⟩ := h.2.2 hp
    exact ⟨ad, e, hl, fun j hj => (hb.cell (p := ad.add j) (by unfold Addr.add; split <;> exact hl)).trans (hc j hj)⟩⟩
theorem RdB.mono {w : World} {B B' : Nat} {A : Option Addr} {xs : List Int} (h : RdB w B A xs) (hb : B ≤ B') : RdB w B' A xs :=
  ⟨h.1, h.2.1, fun hp => by
    obtain ⟨ad, e, hl, hc⟩ := h.2.2 hp
    exact ⟨ad, e, by omega, hc⟩⟩
/-- A new block of bytes is read. -/
theorem RdB.lit (w : World) (xs : List Int) (t : Nat) (hb : IsBytes xs) (hl : xs.length ≤ 140737488355328) : RdB (w.alloc (.cells (nums .u8 xs).toArray t)) (w.heap.size + 1) (some ⟨w.heap.size, 0, none⟩) xs :=
  ⟨hb, hl, fun hp => ⟨_, rfl, by simp, fun j hj => by
    rw [add_plain, (Blk.new w t (nums .u8 xs).toArray).cell j]
    simp [nums, hj, List.getD_eq_getElem?_getD]⟩⟩

set_option maxHeartbeats 400000 in
theorem awake5_any (w : World) : Calls Try.prog 27 #[] w fun e w' => e = .returned (.bool true) ∧ Below w.heap.size w w' := by
  go_enter Try.func27, Try.ntmps27
  go_wp2_with fail
  refine (rnew_any _).mono ?_
  rintro e w1 ⟨rfl, hw1⟩
  have hr1 : Rol w1 w.heap.size 53 [] [] := by rw [hw1]; exact Rol.new w
  have hB1 : Below w.heap.size w w1 := by rw [hw1]; exact (Below.refl _ _).alloc (Nat.le_refl _) _
  have hz1 : w.heap.size < w1.heap.size := by rw [hw1]; simp
  clear hw1
  have e0 : wt 0 = 2654435761 := by decide
  have e1 : wt 1 = 3668339987 := by decide
  have e2 : sumB [0, 0] = 2027808452 := by decide
  have e3 : sumB (last16 ([] ++ [0])) = 2654435761 := by decide
  have e4 : sumB (last16 (([] ++ [0]) ++ [0])) = 2027808452 := by decide
  have E0 := Lib.hid e0
  have E1 := Lib.hid e1
  have E2 := Lib.hid e2
  have E3 := Lib.hid e3
  have E4 := Lib.hid e4
  clear e0 e1 e2 e3 e4
  go_wp2_with fail
  refine (weight_any _ _ (by decide) (by decide)).mono ?_
  rintro e w' ⟨rfl, rfl⟩
  rw [E0.out]
  go_wp2_with fail
  refine (weight_any _ _ (by decide) (by decide)).mono ?_
  rintro e w' ⟨rfl, rfl⟩
  rw [E1.out]
  go_wp2_with fail
  have hr2 := hr1.alloc (.cells #[Value.int IntKind.u8 0, Value.int IntKind.u8 0] 5)
  have hB2 := hB1.alloc (by omega) (.cells #[Value.int IntKind.u8 0, Value.int IntKind.u8 0] 5)
  have hrd : RdB (w1.alloc (.cells #[Value.int IntKind.u8 0, Value.int IntKind.u8 0] 5)) (w1.heap.size + 1) (some ⟨w1.heap.size, 0, none⟩) [0, 0] := RdB.lit w1 [0, 0] 5 (fun x hx => by simp at hx; omega) (by decide)
  refine (sum_any _ 2 _ [0, 0] _ hrd).mono ?_
  rintro e w' ⟨rfl, rfl⟩
  rw [E2.out]
  clear hrd
  have hz2 : w.heap.size < (w1.alloc (.cells #[Value.int IntKind.u8 0, Value.int IntKind.u8 0] 5)).heap.size := by simp; omega
  generalize w1.alloc (.cells #[Value.int IntKind.u8 0, Value.int IntKind.u8 0] 5) = w2 at hr2 hB2 hz2 ⊢
  go_wp2_with fail
  refine (push_any _ _ [] 0 _ _ (by decide) (by decide) hr2).mono ?_
  rintro e w3 ⟨rfl, hr3, ht3⟩
  have hB3 := ht3.below hB2 (Nat.le_refl _) (by omega)
  have hz3 : w.heap.size < w3.heap.size := by rw [ht3.2]; exact hz2
  rw [E3.out]
  go_wp2_with fail
  refine (push_any _ _ ([] ++ [0]) 0 _ _ (by decide) (by decide) hr3).mono ?_
  rintro e w4 ⟨rfl, hr4, ht4⟩
  have hB4 := ht4.below hB3 (Nat.le_refl _) (by omega)
  rw [E4.out]
  go_wp2_with fail
  go_ret
  exact ⟨rfl, hB4⟩

/-! ### Cuts of bytes that are read -/
theorem info22 : ∃ i, Try.prog.info? 5 = some i ∧ i.size = 1 := by
  obtain ⟨i0, hi, hz⟩ := Option.map_eq_some_iff.1 (show (Try.prog.info? 5).map (fun i => (i.zero, i.size, i.bytes)) = some (some (.int .u8 0), 1, 1) from by kernel_rfl)
  simp only [Prod.mk.injEq] at hz
  exact ⟨i0, hi, hz.2.1⟩
theorem add_of_add (a : Addr) (i j : Nat) : (a.add i).add j = a.add (i + j) := by
  unfold Addr.add
  by_cases hi : i = 0 <;> by_cases hj : j = 0 <;> simp [hi, hj, Nat.add_assoc]
theorem block_of_add (a : Addr) (n : Nat) : (a.add n).block = a.block := by unfold Addr.add; split <;> rfl
theorem IsBytes.take {xs : List Int} (h : IsBytes xs) (k : Nat) : IsBytes (xs.take k) := fun x hx => h x (List.mem_of_mem_take hx)
theorem IsBytes.drop {xs : List Int} (h : IsBytes xs) (k : Nat) : IsBytes (xs.drop k) := fun x hx => h x (List.mem_of_mem_drop hx)
theorem RdB.take {w : World} {B : Nat} {A : Option Addr} {xs : List Int} (h : RdB w B A xs) (k : Nat) : RdB w B A (xs.take k) :=
  ⟨h.1.take k, by have := h.2.1; rw [List.length_take]; omega, fun hp => by
    rw [List.length_take] at hp
    obtain ⟨ad, e, hb, hc⟩ := h.2.2 (by omega)
    refine ⟨ad, e, hb, fun j hj => ?_⟩
    rw [List.length_take] at hj
    rw [hc j (by omega)]
    simp [List.getD_eq_getElem?_getD, show j < k by omega]⟩
theorem RdB.drop {w : World} {B : Nat} {A : Option Addr} {xs : List Int} {c : Nat} (h : RdB w B A xs) (k : Nat) (hc : xs.length ≤ c) : RdB w B (if c = k then A else A.map (·.add k)) (xs.drop k) :=
  ⟨h.1.drop k, by have := h.2.1; rw [List.length_drop]; omega, fun hp => by
    rw [List.length_drop] at hp
    obtain ⟨ad, rfl, hb, hcell⟩ := h.2.2 (by omega)
    rw [if_neg (by omega)]
    refine ⟨ad.add k, rfl, by rw [block_of_add]; exact hb, fun j hj => ?_⟩
    rw [List.length_drop] at hj
    rw [add_of_add, hcell (k + j) (by omega)]
    simp [List.getD_eq_getElem?_getD]⟩
theorem cutD (A : Option Addr) (cap : Nat) (xs ys : List Int) (j : Int) (h0 : 0 ≤ j) (hm : j ≤ xs.length) (hc : xs.length ≤ cap) (hy : xs.drop j.toNat = ys) :
    ∃ (A' : Option Addr) (cap' : Nat), (∀ W : World, (Instr.slice 22 (.slice A xs.length cap) (some (.int .i64 j)) none none).run Try.prog W = .ok (.slice A' ys.length cap') W) ∧ ys.length ≤ cap' ∧ ∀ (w : World) (B : Nat), RdB w B A xs → RdB w B A' ys := by
  obtain ⟨i, hi, hsz⟩ := info22
  subst hy
  refine ⟨_, cap - j.toNat, fun W => ?_, ?_, fun w B hr => hr.drop (c := cap) j.toNat hc⟩
  · rw [cut_from (P := Try.prog) 22 5 .i64 Try.underlying22 hi 1 hsz A xs.length cap j h0 hm W]
    simp only [Nat.mul_one, List.length_drop]
  · rw [List.length_drop]; omega
theorem cutT (A : Option Addr) (cap : Nat) (xs ys : List Int) (j : Int) (h0 : 0 ≤ j) (hm : j ≤ xs.length) (hc : xs.length ≤ cap) (hy : xs.take j.toNat = ys) :
    (∀ W : World, (Instr.slice 22 (.slice A xs.length cap) none (some (.int .i64 j)) none).run Try.prog W = .ok (.slice A ys.length cap) W) ∧ ys.length ≤ cap ∧ ∀ (w : World) (B : Nat), RdB w B A xs → RdB w B A ys := by
  obtain ⟨i, hi, hsz⟩ := info22
  subst hy
  have hl : (xs.take j.toNat).length = j.toNat := by rw [List.length_take]; omega
  refine ⟨fun W => ?_, by rw [hl]; omega, fun w B hr => hr.take j.toNat⟩
  rw [cut_to (P := Try.prog) 22 5 .i64 Try.underlying22 hi A xs.length cap j h0 hm hc W, hl]
theorem cutM (A : Option Addr) (cap : Nat) (xs ys : List Int) (i j : Int) (h0 : 0 ≤ i) (h1 : i ≤ j) (hm : j ≤ xs.length) (hc : xs.length ≤ cap) (hy : (xs.take j.toNat).drop i.toNat = ys) :
    ∃ (A' : Option Addr) (cap' : Nat), (∀ W : World, (Instr.slice 22 (.slice A xs.length cap) (some (.int .i64 i)) (some (.int .i64 j)) none).run Try.prog W = .ok (.slice A' ys.length cap') W) ∧ ys.length ≤ cap' ∧ ∀ (w : World) (B : Nat), RdB w B A xs → RdB w B A' ys := by
  obtain ⟨i0, hi, hsz⟩ := info22
  subst hy
  have hl : (xs.take j.toNat).length = j.toNat := by rw [List.length_take]; omega
  refine ⟨_, cap - i.toNat, fun W => ?_, ?_, fun w B hr => (hr.take j.toNat).drop (c := cap) i.toNat (by rw [hl]; omega)⟩
  · rw [cut_mid (P := Try.prog) 22 5 .i64 .i64 Try.underlying22 hi 1 hsz A xs.length cap i j h0 h1 hm hc W]
    simp only [Nat.mul_one, List.length_drop, hl]
  · rw [List.length_drop, hl]; omega

/-- A slice of bytes, as a value. -/
def IsSl (w : World) (B : Nat) (v : Value) (xs : List Int) : Prop := ∃ (A : Option Addr) (cap : Nat), v = .slice A xs.length cap ∧ xs.length ≤ cap ∧ RdB w B A xs

/-- What is returned is such a slice. -/
def IsSlR (w : World) (B : Nat) (e : Ending) (xs : List Int) : Prop := ∃ (A : Option Addr) (cap : Nat), e = .returned (.slice A xs.length cap) ∧ xs.length ≤ cap ∧ RdB w B A xs

set_option maxHeartbeats 400000 in
/-- The reference's Last: the last sixteen bytes, or all. -/
theorem last_any (B cap : Nat) (A : Option Addr) (xs : List Int) (w : World) (hr : RdB w B A xs) (hcap : xs.length ≤ cap) :
    Calls Try.prog 38 #[.slice A xs.length cap] w fun e w' => IsSlR w B e (last16 xs) ∧ w = w' := by
  have hl := hr.2.1
  by_cases h : 16 < xs.length
  · obtain ⟨A', cap', hcut, hc', hr'⟩ := cutD A cap xs (last16 xs) ((xs.length : Int) - 16) (by omega) (by omega) hcap (by unfold last16; rw [show ((xs.length : Int) - 16).toNat = xs.length - 16 from by omega])
    have hs : IsSlR w B (.returned (.slice A' (last16 xs).length cap')) (last16 xs) := ⟨_, _, rfl, hc', hr' w B hr⟩
    have HS := Lib.hid hs
    clear hs hr' hc' hr
    go_enter Try.func38, Try.ntmps38
    go_wp2_with fail
    go_ret
    exact ⟨HS.out, rfl⟩
  · have hs : IsSlR w B (.returned (.slice A xs.length cap)) (last16 xs) := by rw [last16_short _ (by omega)]; exact ⟨_, _, rfl, hcap, hr⟩
    have HS := Lib.hid hs
    clear hs hr
    go_enter Try.func38, Try.ntmps38
    go_wp2_with fail
    go_ret
    exact ⟨HS.out, rfl⟩

/-- A block of noughts, behind a name. -/
def zerosB (n : Nat) : Array Value := (nums .u8 (List.replicate n 0)).toArray
theorem madeCells_zeros (n : Nat) : madeCells #[Value.int .u8 0] n = zerosB n := by
  apply Array.ext'
  rw [toList_madeCells_one]
  simp [zerosB, nums]
theorem info5b : (Try.prog.info? 5).map (fun i => (i.zero, i.size, i.bytes)) = some (some (.int .u8 0), 1, 1) := by kernel_rfl
theorem mk_zeros (n : Nat) (hn : n ≤ 281474976710656) (W : World) : (Instr.makeSlice 22 (.int .i64 (n : Int)) (.int .i64 (n : Int))).run Try.prog W = .ok (.slice (some ⟨W.heap.size, 0, none⟩) n n) (W.alloc (.cells (zerosB n) 5)) := by
  rw [← madeCells_zeros]
  exact print_make 22 5 .u8 1 Try.underlying22 info5b (by decide) n (by omega) W
theorem IsBytes.zeros (n : Nat) : IsBytes (List.replicate n 0) := fun x hx => by
  have := (List.mem_replicate.1 hx).2
  omega


end Go.Proofs.Ytneieogpdjlnbaa
