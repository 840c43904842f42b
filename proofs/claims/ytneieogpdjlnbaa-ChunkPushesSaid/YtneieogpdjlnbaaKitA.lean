/- The walks of package satchelkit's Pick, CopyBytes, SameBytes. Conditions: those that each statement names. -/
import Derived.Test.YtneieogpdjlnbaaKit0
set_option linter.unusedVariables false
set_option linter.unusedSimpArgs false
namespace Go.Proofs.Ytneieogpdjlnbaa
open Go.RowKit Go.Proofs.YtneieogpdjlnbaaW.PrintWords

/-- What is returned is a row of bytes of one's own. -/
def OwnR (w : World) (S : Nat → Prop) (e : Ending) (xs : List Int) : Prop := ∃ v, e = .returned v ∧ OwnB w S v xs

set_option maxHeartbeats 400000 in
theorem copy_any (B cap : Nat) (A : Option Addr) (xs : List Int) (w : World) (hr : RdB w B A xs) :
    Calls Try.prog 29 #[.slice A xs.length cap] w fun e w' => OwnR w' (w.heap.size ≤ ·) e xs ∧ Below w.heap.size w w' := by
  have hl := hr.2.1
  have HR := Lib.hid (hr.rdS.rdB.below (below_alloc (Below.refl _ _) (.cells #[] 5)))
  clear hr
  have HO : OwnB (w.alloc (.cells #[] 5)) (w.heap.size ≤ ·) (.slice (some ⟨w.heap.size, 0, none⟩) 0 0) [] := ⟨fun x hx => by simp at hx, .inr ⟨w.heap.size, [], rfl, Nat.le_refl _, fun x hx => by simp at hx, by simp, Blk.new w 5 #[]⟩⟩
  have HOh := Lib.hid HO
  clear HO
  go_enter Try.func29, Try.ntmps29
  go_wp2_with (at_builtin; refine wpList_append_bytes _ rfl _ _ rfl (w.heap.size ≤ ·) _ [] xs rfl HOh.out _ A cap rfl HR.out (by simpa using hl) (by simp) ?_; intro v1 w1 ho hg hat; rw [List.nil_append] at ho; have hb := ((Below.refl w.heap.size w).alloc (Nat.le_refl _) (.cells #[] 5)).grown hg (by simp) (fun k e => by cases e; exact Nat.le_refl _); have HO1 := Lib.hid ho; have HB1 := Lib.hid hb; clear ho hb hg hat)
  go_ret
  exact ⟨⟨v1, rfl, HO1.out⟩, HB1.out⟩

/-- A number below n, or 0. -/
def Picked (n : Int) (e : Ending) : Prop := ∃ k : Nat, e = .returned (.int .i64 k) ∧ (0 < n → (k : Int) < n) ∧ (n = 0 → k = 0)
theorem tmod_bd (x n : Int) (hn : 1 ≤ n) : -n < x.tmod n ∧ x.tmod n < n := by
  rcases Int.le_total 0 x with h | h
  · rw [Int.tmod_eq_emod_of_nonneg h]
    have := Int.emod_nonneg x (show n ≠ 0 by omega)
    have := Int.emod_lt_of_pos x (show 0 < n by omega)
    omega
  · have e : x.tmod n = -((-x).tmod n) := by rw [Int.neg_tmod, Int.neg_neg]
    rw [e, Int.tmod_eq_emod_of_nonneg (show 0 ≤ -x by omega)]
    have := Int.emod_nonneg (-x) (show n ≠ 0 by omega)
    have := Int.emod_lt_of_pos (-x) (show 0 < n by omega)
    omega
set_option maxHeartbeats 400000 in
theorem pick_any (x n : Int) (w : World) (hx : (Lit.int .i64 x).wf = true) (hn : 0 ≤ n) (hn2 : n ≤ 140737488355328) :
    Calls Try.prog 28 #[.int .i64 x, .int .i64 n] w fun e w' => Picked n e ∧ w = w' := by
  simp [Lit.wf, IntKind.min, IntKind.max, IntKind.signed, IntKind.bits] at hx
  obtain ⟨hx0, hx1⟩ := hx
  by_cases h1 : n < 1
  · go_enter Try.func28, Try.ntmps28
    go_wp2
    go_ret
    exact ⟨⟨0, rfl, by omega, by omega⟩, rfl⟩
  · obtain ⟨t0, t1⟩ := tmod_bd x n (by omega)
    by_cases hneg : x.tmod n < 0
    · go_enter Try.func28, Try.ntmps28
      go_wp2
      go_ret
      refine ⟨⟨(x.tmod n + n).toNat, ?_, by omega, by omega⟩, rfl⟩
      rw [Int.toNat_of_nonneg (by omega)]
      exact ret_int rfl
    · go_enter Try.func28, Try.ntmps28
      go_wp2
      go_ret
      refine ⟨⟨(x.tmod n).toNat, ?_, by omega, by omega⟩, rfl⟩
      rw [Int.toNat_of_nonneg (by omega)]
      rfl

/-! ### SameBytes -/
theorem byte_inj {a b : Int} (ha : 0 ≤ a ∧ a ≤ 255) (hb : 0 ≤ b ∧ b ≤ 255) (h : UInt8.ofNat a.toNat = UInt8.ofNat b.toNat) : a = b := by
  have := congrArg UInt8.toNat h
  simp only [UInt8.toNat_ofNat'] at this
  omega
theorem bytes_inj : ∀ {xs ys : List Int}, IsBytes xs → IsBytes ys → (xs.map fun n => UInt8.ofNat n.toNat) = (ys.map fun n => UInt8.ofNat n.toNat) → xs = ys
  | [], [], _, _, _ => rfl
  | [], _ :: _, _, _, h => by simp at h
  | _ :: _, [], _, _, h => by simp at h
  | x :: xs, y :: ys, hx, hy, h => by
    simp only [List.map_cons, List.cons.injEq] at h
    rw [byte_inj (hx x (by simp)) (hy y (by simp)) h.1, bytes_inj (fun z hz => hx z (by simp [hz])) (fun z hz => hy z (by simp [hz])) h.2]
theorem strOfNums_beq {xs ys : List Int} (hx : IsBytes xs) (hy : IsBytes ys) : ((strOfNums xs).toList == (strOfNums ys).toList) = decide (xs = ys) := by
  unfold strOfNums
  rw [ByteArray.toList_mk, ByteArray.toList_mk, Bool.eq_iff_iff, beq_iff_eq, decide_eq_true_iff]
  exact ⟨bytes_inj hx hy, fun h => by rw [h]⟩
set_option maxHeartbeats 400000 in
theorem same_any (B B' c c' : Nat) (A A' : Option Addr) (xs ys : List Int) (w : World) (hx : RdB w B A xs) (hy : RdB w B' A' ys) :
    Calls Try.prog 42 #[.slice A xs.length c, .slice A' ys.length c'] w fun e w' => e = .returned (.bool (decide (xs = ys))) ∧ w = w' := by
  have h1 := string_of_reads (P := Try.prog) (c := c) Try.underlying22 Try.underlying5 Try.underlying9 hx.reads
  have h2 := string_of_reads (P := Try.prog) (c := c') Try.underlying22 Try.underlying5 Try.underlying9 hy.reads
  have h3 := strOfNums_beq hx.1 hy.1
  have H3 := Lib.hid h3
  clear hx hy h3
  go_enter Try.func42, Try.ntmps42
  go_wp2
  go_ret
  exact ⟨by rw [← H3.out]; rfl, rfl⟩
end Go.Proofs.Ytneieogpdjlnbaa
