/- The walks of package satchelkit's SameInts, SameLists, of package chunk's Cut, of the statements' together and tails. Conditions: those that each statement names. -/
import Derived.Test.YtneieogpdjlnbaaSplA
set_option linter.unusedVariables false
set_option linter.unusedSimpArgs false
namespace Go.Proofs.Ytneieogpdjlnbaa
open Go Go.RowKit Go.Proofs.YtneieogpdjlnbaaW.PrintWords

/-- Whole numbers that are read. -/
def RdI (w : World) (A : Option Addr) (xs : List Int) : Prop := ∀ j, j < xs.length → ∃ ad, A = some ad ∧ w.cell? (ad.add j) = some (.int .i64 (xs.getD j 0))
theorem RdI.below {w w' : World} {A : Option Addr} {xs : List Int} (h : RdI w A xs) (hb : Below w.heap.size w w') : RdI w' A xs := fun j hj => by
  obtain ⟨ad, e, hc⟩ := h j hj
  exact ⟨ad, e, pw_cell_below hb hc⟩
/-- A list of rows of bytes that is read. -/
def RdL (w : World) (A : Option Addr) (ls : List (List Int)) : Prop :=
  ∀ j, j < ls.length → ∃ ad A' c, A = some ad ∧ w.cell? (ad.add j) = some (.slice A' (ls.getD j []).length c) ∧ (ls.getD j []).length ≤ c ∧ RdB w w.heap.size A' (ls.getD j [])
theorem RdB.up {w w' : World} {A : Option Addr} {xs : List Int} (h : RdB w w.heap.size A xs) (hb : Below w.heap.size w w') : RdB w' w'.heap.size A xs := (h.below hb).mono hb.size
theorem RdL.below {w w' : World} {A : Option Addr} {ls : List (List Int)} (h : RdL w A ls) (hb : Below w.heap.size w w') : RdL w' A ls := fun j hj => by
  obtain ⟨ad, A', c, e, hc, hl, hr⟩ := h j hj
  exact ⟨ad, A', c, e, pw_cell_below hb hc, hl, hr.up hb⟩
theorem OwnL.rdl {w : World} {S : Nat → Prop} {v : Value} {ls : List (List Int)} (h : OwnL w S v ls) (hl : ∀ l ∈ ls, l.length ≤ 1000000) : ∃ A c, v = .slice A ls.length c ∧ ls.length ≤ c ∧ RdL w A ls := by
  rcases h with ⟨e, rfl⟩ | ⟨g, vs, sp, e, hg, h1, h2, h3⟩
  · exact ⟨none, 0, e, by simp, fun j hj => by simp at hj⟩
  · refine ⟨_, _, e, by omega, fun j hj => ?_⟩
    have hm : ls.getD j [] ∈ ls := by
      rw [List.getD_eq_getElem?_getD, List.getElem?_eq_getElem hj]
      exact List.getElem_mem hj
    obtain ⟨A', c, e', hc, hr⟩ := (h3.2 j hj).rd (by have := hl _ hm; omega)
    refine ⟨_, A', c, rfl, ?_, hc, hr.rdB⟩
    have hjv : j < vs.length := by rw [h3.1]; exact hj
    rw [add_plain, h2.cell j, List.getElem?_toArray, List.getElem?_append_left hjv, List.getElem?_eq_getElem hjv, ← e']
    simp [List.getD_eq_getElem?_getD, List.getElem?_eq_getElem hjv]
theorem ext_getD {α : Type} (d : α) {xs ys : List α} (hl : xs.length = ys.length) (h : ∀ j, j < xs.length → xs.getD j d = ys.getD j d) : xs = ys := by
  apply List.ext_getElem hl
  intro i h1 h2
  have := h i h1
  simpa [List.getD_eq_getElem?_getD, List.getElem?_eq_getElem h1, List.getElem?_eq_getElem h2] using this

set_option maxHeartbeats 800000 in
theorem sameInts_any (c c' : Nat) (A A' : Option Addr) (xs ys : List Int) (w : World) (hx : RdI w A xs) (hy : RdI w A' ys) (hl : xs.length ≤ 140737488355328) (hl' : ys.length ≤ 140737488355328) :
    Calls Try.prog 46 #[.slice A xs.length c, .slice A' ys.length c'] w fun e w' => e = .returned (.bool (decide (xs = ys))) ∧ Below w.heap.size w w' := by
  have HX := Lib.hid hx
  have HY := Lib.hid hy
  clear hx hy
  by_cases hn : xs.length = ys.length
  · have hb1 : ((xs.length : Int) == (ys.length : Int)) = true := beq_iff_eq.2 (by omega)
    have hb2 : ((xs.length : Int) != (ys.length : Int)) = false := by simp [hn]
    have HN := Lib.hid hn
    clear hn
    go_enter Try.func46, Try.ntmps46
    go_wp2_with fail
    clear hb1 hb2
    go_loopw [5] (fun i wr => ∃ k : Nat, k ≤ xs.length ∧ i = .int .i64 k ∧ Hid (∀ j, j < k → xs.getD j 0 = ys.getD j 0) ∧ Hid (Below w.heap.size w wr)) (fun i _ => xs.length - (intOf i).toNat)
    case atStart => exact ⟨0, by omega, rfl, fun j hj => by omega, Below.refl _ _⟩
    case round =>
      obtain ⟨k, hk, rfl, HP, HB⟩ := hrel
      by_cases hlt : k < xs.length
      · have hlt' : k < ys.length := by have := HN.out; omega
        obtain ⟨ad, rfl, hcx⟩ := (HX.out.below HB.out) k hlt
        obtain ⟨ad', rfl, hcy⟩ := (HY.out.below HB.out) k hlt'
        obtain ⟨x, hxx⟩ : ∃ x, xs.getD k 0 = x := ⟨_, rfl⟩
        obtain ⟨y, hyy⟩ : ∃ y, ys.getD k 0 = y := ⟨_, rfl⟩
        rw [hxx] at hcx
        rw [hyy] at hcy
        have HXX := Lib.hid hxx
        have HYY := Lib.hid hyy
        clear hxx hyy
        go_wp2_with fail
        go_quiet (fail)
        by_cases hxy : x = y
        · subst hxy
          go_wp2_with fail
          go_roundw
          case rel => exact ⟨k + 1, by omega, by go_num, fun j hj => by
            by_cases e : j = k
            · rw [e, HXX.out, HYY.out]
            · exact HP.out j (by omega), by first | exact pw_below_drewN HB.out _ | exact below_drew HB.out | exact HB.out⟩
          case measure => simp [intOf]; omega
        · have hb1 : (x == y) = false := beq_eq_false_iff_ne.2 hxy
          have hb2 : (x != y) = true := bne_iff_ne.2 hxy
          go_wp2_with fail
          go_ret
          refine ⟨?_, by first | exact pw_below_drewN HB.out _ | exact below_drew HB.out | exact HB.out⟩
          rw [decide_eq_false (by rintro rfl; exact hxy (HXX.out.symm.trans HYY.out))]
          rfl
      · go_wp2_with fail
        go_ret
        refine ⟨?_, by first | exact pw_below_drewN HB.out _ | exact below_drew HB.out | exact HB.out⟩
        rw [decide_eq_true (ext_getD 0 HN.out (fun j hj => HP.out j (by omega)))]
        rfl
  · have hb1 : ((xs.length : Int) == (ys.length : Int)) = false := beq_eq_false_iff_ne.2 (by omega)
    have hb2 : ((xs.length : Int) != (ys.length : Int)) = true := by simp; omega
    go_enter Try.func46, Try.ntmps46
    go_wp2_with fail
    go_ret
    exact ⟨by rw [decide_eq_false (fun e => hn (by rw [e]))]; rfl, Below.refl _ _⟩

set_option maxHeartbeats 800000 in
theorem sameLists_any (c c' : Nat) (A A' : Option Addr) (xs ys : List (List Int)) (w : World) (hx : RdL w A xs) (hy : RdL w A' ys) (hl : xs.length ≤ 140737488355328) (hl' : ys.length ≤ 140737488355328) :
    Calls Try.prog 45 #[.slice A xs.length c, .slice A' ys.length c'] w fun e w' => e = .returned (.bool (decide (xs = ys))) ∧ Below w.heap.size w w' := by
  have HX := Lib.hid hx
  have HY := Lib.hid hy
  clear hx hy
  by_cases hn : xs.length = ys.length
  · have hb1 : ((xs.length : Int) == (ys.length : Int)) = true := beq_iff_eq.2 (by omega)
    have hb2 : ((xs.length : Int) != (ys.length : Int)) = false := by simp [hn]
    have HN := Lib.hid hn
    clear hn
    go_enter Try.func45, Try.ntmps45
    go_wp2_with fail
    clear hb1 hb2
    go_loopw [5] (fun i wr => ∃ k : Nat, k ≤ xs.length ∧ i = .int .i64 k ∧ Hid (∀ j, j < k → xs.getD j [] = ys.getD j []) ∧ Hid (Below w.heap.size w wr)) (fun i _ => xs.length - (intOf i).toNat)
    case atStart => exact ⟨0, by omega, rfl, fun j hj => by omega, Below.refl _ _⟩
    case round =>
      obtain ⟨k, hk, rfl, HP, HB⟩ := hrel
      by_cases hlt : k < xs.length
      · have hlt' : k < ys.length := by have := HN.out; omega
        obtain ⟨ad, B1, k1, rfl, hcx, _, hr1⟩ := (HX.out.below HB.out) k hlt
        obtain ⟨ad', B2, k2, rfl, hcy, _, hr2⟩ := (HY.out.below HB.out) k hlt'
        obtain ⟨x, hxx⟩ : ∃ x, xs.getD k [] = x := ⟨_, rfl⟩
        obtain ⟨y, hyy⟩ : ∃ y, ys.getD k [] = y := ⟨_, rfl⟩
        rw [hxx] at hcx hr1
        rw [hyy] at hcy hr2
        have HXX := Lib.hid hxx
        have HYY := Lib.hid hyy
        obtain ⟨b, hb⟩ : ∃ b, decide (x = y) = b := ⟨_, rfl⟩
        have hs : ∀ n, Calls Try.prog 42 #[.slice B1 x.length k1, .slice B2 y.length k2] (wr.drewN n) fun e w' => e = .returned (.bool b) ∧ w' = wr.drewN n := fun n => by
          rw [← hb]
          exact (same_any _ _ k1 k2 B1 B2 x y (wr.drewN n) hr1 hr2).mono (fun e w' h => ⟨h.1, h.2.symm⟩)
        have HS := Lib.hid hs
        have HBB := Lib.hid hb
        clear hxx hyy hs hr1 hr2 hb
        go_wp2_with fail
        go_quiet ((go_at_call 42; exact Calls.quiet_of_same (HS.out _)))
        cases b with
        | true =>
          have hxy : x = y := by simpa using HBB.out
          subst hxy
          go_wp2_with fail
          go_roundw
          case rel => exact ⟨k + 1, by omega, by go_num, fun j hj => by
            by_cases e : j = k
            · rw [e, HXX.out, HYY.out]
            · exact HP.out j (by omega), by first | exact pw_below_drewN HB.out _ | exact below_drew HB.out | exact HB.out⟩
          case measure => simp [intOf]; omega
        | false =>
          have hxy : ¬ x = y := by simpa using HBB.out
          have HXY := Lib.hid hxy
          clear hxy
          go_wp2_with fail
          go_ret
          refine ⟨?_, by first | exact pw_below_drewN HB.out _ | exact below_drew HB.out | exact HB.out⟩
          rw [decide_eq_false (by rintro rfl; exact HXY.out (HXX.out.symm.trans HYY.out))]
          rfl
      · go_wp2_with fail
        go_ret
        refine ⟨?_, by first | exact pw_below_drewN HB.out _ | exact below_drew HB.out | exact HB.out⟩
        rw [decide_eq_true (ext_getD [] HN.out (fun j hj => HP.out j (by omega)))]
        rfl
  · have hb1 : ((xs.length : Int) == (ys.length : Int)) = false := beq_eq_false_iff_ne.2 (by omega)
    have hb2 : ((xs.length : Int) != (ys.length : Int)) = true := by simp; omega
    have HN := Lib.hid hn
    clear hn
    go_enter Try.func45, Try.ntmps45
    go_wp2_with fail
    go_ret
    exact ⟨by rw [decide_eq_false (fun e => HN.out (by rw [e]))]; rfl, Below.refl _ _⟩

/-- Whole numbers of the call's own. -/
def OwnI (w : World) (B : Nat) (v : Value) (xs : List Int) : Prop := w.ownsRow B 3 1 v xs.length (nums .i64 xs)
theorem OwnI.nil (w : World) (B : Nat) : OwnI w B (.slice none 0 0) [] := own_nil w B 3 1
theorem OwnI.below {w w' : World} {B : Nat} {v : Value} {xs : List Int} (h : OwnI w B v xs) (hb : Below w.heap.size w w') : OwnI w' B v xs := pw_own_below h hb
theorem OwnI.rd {w : World} {B : Nat} {v : Value} {xs : List Int} (h : OwnI w B v xs) : ∃ A c, v = .slice A xs.length c ∧ RdI w A xs := by
  obtain ⟨A, c, e, h1, h2, h3⟩ := own_reads h
  refine ⟨A, c, e, fun j hj => ?_⟩
  obtain ⟨ad, e', hc⟩ := h3 (by omega)
  exact ⟨ad, e', hc j hj⟩
theorem info3b : (Try.prog.info? 3).map (fun i => (i.zero, i.size, i.bytes)) = some (some (.int .i64 0), 1, 8) := by kernel_rfl
theorem under42 : Try.prog.underlying 42 = some (.slice 3) := by kernel_rfl

/-- How long the chunks of bytes are. -/
def lensB (bs : List Int) : List Int := (splitB bs).map (fun l => (l.length : Int))
end Go.Proofs.Ytneieogpdjlnbaa
