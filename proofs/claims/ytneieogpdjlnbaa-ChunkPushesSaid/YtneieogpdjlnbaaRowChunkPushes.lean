/- ChunkPushes, at every input: it returns true and leaves its argument as it reads. Conditions: none. -/
import Derived.Test.YtneieogpdjlnbaaRows
import Derived.Test.YtneieogpdjlnbaaLawsN
import Derived.WalkKit
import Derived.ProofKit
import Derived.OpenShut
import Derived.ShutString
import Derived.ChangeOld
import Derived.Below
import Derived.SizedLaws
import Derived.ChangeArms
import Derived.ChangeSlices
import Derived.Deep.Slices
import Derived.Deep.Fields
namespace Go.Proofs.Ytneieogpdjlnbaa.chunkPushes
open Go.ChangeShapes Go.WideShapes Go.ChangeAt Go.RowKit Go.Deep
set_option linter.unusedVariables false

theorem own : ownKnob Try.prog.godebug = none := by kernel_rfl
theorem laidOut : laidOutB Try.prog = true := by kernel_rfl
theorem bytes5 : Try.prog.bytesOf 5 = 1 := by kernel_rfl
theorem bytes62 : Try.prog.bytesOf 62 = 32 := by kernel_rfl
theorem cells62 : Try.prog.cellsOf 62 = 2 := by kernel_rfl
theorem cells22 : Try.prog.cellsOf 22 = 1 := by kernel_rfl
theorem cells4 : Try.prog.cellsOf 4 = 1 := by kernel_rfl

section
variable {H : Type} {P : Program}
theorem all_mem {e : TypeId} : ∀ {l : List (DataW H)} {d : DataW H}, d ∈ l → ∀ n ∈ d.weights P e, n ∈ DataW.weightsAll P e l
  | d0 :: l, d, h, n, hn => by
    simp only [DataW.weightsAll, List.mem_append]
    rcases List.mem_cons.1 h with rfl | h
    · exact .inl hn
    · exact .inr (all_mem h n hn)
end
/-- What is there at each place is there as a list. -/
theorem list_of {α : Type} (d : α) {Q : Nat → α → Prop} : ∀ n, (∀ i, i < n → ∃ x, Q i x) → ∃ l : List α, l.length = n ∧ ∀ i, i < n → Q i (l.getD i d)
  | 0, _ => ⟨[], rfl, fun i hi => by omega⟩
  | n + 1, h => by
    obtain ⟨l, hl, hq⟩ := list_of d n (fun i hi => h i (by omega))
    obtain ⟨x, hx⟩ := h n (by omega)
    refine ⟨l ++ [x], by simp [hl], fun i hi => ?_⟩
    rw [List.getD_eq_getElem?_getD]
    by_cases e : i < n
    · rw [List.getElem?_append_left (by omega), ← List.getD_eq_getElem?_getD]
      exact hq i e
    · obtain rfl : i = n := by omega
      rw [List.getElem?_append_right (by omega), hl]
      simpa using hx

theorem pieces {H : Type} {enc : TypeId × Value → H} {W : World} {held : Bool} {fuel : Nat} {a0 : Option Addr} {len0 cap0 : Nat} {x : DataW H × List MemPlace}
    (h : DataW.trod enc Try.prog W 0 (fun _ => true) held fuel 60 [.slice a0 len0 cap0] = some x) (hr : (DataW.weightsEach Try.prog [60] [x.1]).all (· ≤ reachBytes) = true) :
    ∃ ls : List (List Int × Bool), len0 = ls.length ∧ ls.length ≤ 140737488355328 ∧ RdP W a0 ls := by
  rcases open_slice Try.underlying60 h with ⟨hcs, _⟩ | ⟨a, len, cap, m, fu, D, Pl, hcs, _, hl, _, hm, hx, hi⟩
  · simp at hcs
    obtain ⟨rfl, rfl, rfl⟩ := hcs
    exact ⟨[], rfl, by simp, fun i hi => by simp at hi⟩
  · simp at hcs
    obtain ⟨rfl, rfl, rfl⟩ := hcs
    simp at hm
    subst hm
    have hreach : reachBytes = 140737488351232 := by decide
    have hlen := sized_slice hr (j := 0) rfl (by rw [hx]; rfl) Try.underlying60
    rw [bytes62, hreach, List.length_map, List.length_map, List.length_range, List.length_range] at hlen
    have hat : ∀ i, i < len0 → ∃ p : List Int × Bool, ∃ A' c', W.cell? (a.add (i * 2)) = some (.slice A' p.1.length c') ∧ W.cell? (a.add (i * 2 + 1)) = some (.bool p.2) ∧ p.1.length ≤ c' ∧ RdB W W.heap.size A' p.1 := by
      intro i hil
      obtain ⟨cs, hcc, htr⟩ := hi i (by omega)
      rw [cells62] at hcc
      obtain ⟨ys, n, _, hy, _, hyl, hf⟩ := DataW.trod_struct Try.underlying62 htr
      obtain ⟨_, hcl, hcat⟩ := World.cells?_some hcc
      obtain ⟨v, v1, rfl⟩ : ∃ v v1, cs = [v, v1] := by
        match cs, hcl with
        | [v, v1], _ => exact ⟨v, v1, rfl⟩
      obtain ⟨y, y1, rfl⟩ : ∃ y y1, ys = [y, y1] := by
        match ys, hyl with
        | [y, y1], _ => exact ⟨y, y1, rfl⟩
      have hD : D i = .agg ([y, y1].map (·.1)) := (Prod.mk.inj hy).1
      have hcell : W.cell? (a.add (i * 2)) = some v := by
        have := hcat 0 (by omega)
        rw [Go.Deep.add_add] at this
        simpa using this
      have hcell1 : W.cell? (a.add (i * 2 + 1)) = some v1 := by
        have := hcat 1 (by omega)
        rw [Go.Deep.add_add] at this
        simpa using this
      have g0 : DataW.trod enc Try.prog W 0 (fun _ => true) held n 22 (([v, v1].drop 0).take (Try.prog.cellsOf 22)) = some y := hf 0 _ rfl
      have g1 : DataW.trod enc Try.prog W 0 (fun _ => true) held n 4 (([v, v1].drop 1).take (Try.prog.cellsOf 4)) = some y1 := hf 1 _ rfl
      rw [cells22] at g0
      rw [cells4] at g1
      have ht : DataW.trod enc Try.prog W 0 (fun _ => true) held n 22 [v] = some y := g0
      have ht1 : DataW.trod enc Try.prog W 0 (fun _ => true) held n 4 [v1] = some y1 := g1
      obtain ⟨b, hv1, _⟩ := DataW.trod_bool Try.underlying4 ht1
      simp only [List.cons.injEq, and_true] at hv1
      subst hv1
      have hmem : ∀ k ∈ y.1.weights Try.prog 22, k ≤ reachBytes := by
        intro k hk
        have h1 : k ∈ (D i).weights Try.prog 62 := by
          rw [hD]
          simp only [DataW.weights, Try.underlying62]
          exact DataW.weights_mem_each (j := 0) rfl rfl k hk
        have h2 : k ∈ x.1.weights Try.prog 60 := by
          rw [hx]
          simp only [DataW.weights, Try.underlying60]
          exact List.mem_cons_of_mem _ (List.mem_append_left _ (all_mem (List.mem_map.2 ⟨i, List.mem_range.2 hil, rfl⟩) k h1))
        have h3 := List.all_eq_true.1 hr k (DataW.weights_mem_each (j := 0) rfl rfl k h2)
        simpa using h3
      have hrow : ∃ A' l' c' zs, v = .slice A' l' c' ∧ IsRow .u8 W A' l' c' zs ∧ l' ≤ 140737488355328 := by
        rcases open_ints Try.underlying22 Try.underlying5 (by kernel_rfl) ht with ⟨hcs, _⟩ | ⟨x', l, c, zs, hcs, _, hl', hm', hz, hyy, hcl, hwz⟩
        · simp only [List.cons.injEq, and_true] at hcs
          exact ⟨_, _, _, [], hcs, .inl ⟨rfl, rfl, rfl, rfl⟩, by omega⟩
        · simp only [List.cons.injEq, and_true] at hcs
          refine ⟨_, _, _, zs, hcs, .inr ⟨_, rfl, hl', hm', by simpa using hz, hcl, hwz⟩, ?_⟩
          have hw := hmem (((lits .u8 (zs.take l)).length + (lits .u8 (zs.drop l)).length : Nat) * Try.prog.bytesOf 5) (by
            rw [hyy]
            simp only [DataW.weights, Try.underlying22]
            exact List.mem_cons_self)
          rw [bytes5, hreach] at hw
          simp [lits] at hw hz
          omega
      obtain ⟨A', l', c', zs, rfl, hrw, hl'⟩ := hrow
      obtain ⟨xs, rfl, hc, hrd⟩ := hrw.rd hl'
      exact ⟨(xs, b), A', c', hcell, hcell1, hc, hrd⟩
    obtain ⟨ls, hls, hq⟩ := list_of ([], false) len0 hat
    refine ⟨ls, hls.symm, by omega, fun i hil => ?_⟩
    obtain ⟨A', c', h1, h2, h3, h4⟩ := hq i (by omega)
    exact ⟨a, A', c', rfl, h1, h2, h3, h4⟩

set_option maxRecDepth 100000 in
theorem lifted (os : Os) (started : os.Started) (H : Type) (enc : TypeId × Value → H) :
    ReturnsInHanded {} Try.checked os 14 .any (Rows.chunkPushesSpec.pre6 enc Try.prog Try.f14 Rows.chunkPushesRow.domain false) (Rows.chunkPushesSpec.post enc Try.prog Try.f14 false true false false) := by
  refine returnsInHanded_of_change_sized (C := Try.checked) own started (by kernel_rfl) Try.func14
    (ChangeSpec.witness6 (enc := enc) (C := Try.checked) false ⟨#[], #[.slice none 0 0], []⟩ 8 (by kernel_rfl) (by kernel_rfl) (by kernel_rfl) (by kernel_rfl)) ?_
  intro W base args ds gs before hval0 hW hcnd hreach _
  have hval : ∀ (j : Nat) t v, Try.f14.params[j]? = some t → args[j]? = some v → Value.okWide Try.prog W .any base t v := hval0
  have hW' := hW
  obtain ⟨p, q, hA0, hV, rfl, hfz, hnd⟩ := hW
  have hA : DataW.TrodAll enc Try.prog W 0 (fun _ => true) true Try.f14.params.toList args.toList ds p := hA0
  have hre : (DataW.weightsEach Try.prog (Try.f14.params.toList ++ Rows.chunkPushesSpec.plain.varTypes Try.prog) (ds ++ gs)).all (· ≤ reachBytes) = true := hreach
  rw [Try.params14] at hA hval hre
  obtain ⟨v0, vs0, d0, ds0, p0, q0, hargs, rfl, rfl, h0, r0⟩ := trodAll_cons hA
  obtain ⟨rfl, rfl, rfl⟩ := trodAll_nil r0
  obtain rfl : args = #[v0] := by cases args; simp_all
  obtain ⟨rfl, rfl⟩ := trodVars_none hV
  obtain ⟨a0, len0, cap0, rfl⟩ := okWide_slice Try.underlying60 (hval 0 60 v0 rfl rfl)
  have k0 := h0
  have lt0 : ∀ x ∈ p0, x.block < W.heap.size := by obtain ⟨m, hm⟩ := k0; exact DataW.trod_lt m _ _ _ hm
  obtain ⟨ls, hl0, hls, hrd⟩ : ∃ ls : List (List Int × Bool), len0 = ls.length ∧ ls.length ≤ 140737488355328 ∧ RdP W a0 ls := by
    obtain ⟨fuel, hf⟩ := h0
    refine pieces (x := (d0, p0)) hf ?_
    rw [List.all_eq_true] at hre ⊢
    intro n hn
    refine hre n ?_
    simp only [DataW.weightsEach, List.append_nil] at hn
    exact DataW.weights_mem_each (j := 0) rfl rfl n hn
  subst hl0
  clear hA0 hval0
  refine (pushes_walk a0 cap0 ls W hrd hls).mono fun e W' ⟨he, bel⟩ => ?_
  subst he
  exact ⟨_, rfl, _, _, _, [], _, [], hW', trodAll_mk1 (shut_bool Try.underlying4 _), (trodAll_cons_mk (Below.trod laidOut (by kernel_rfl) (of_decide_eq_true (by kernel_rfl)) k0 bel lt0) trodAll_mk0), rfl, bel.frame _, fun h => by cases h⟩

theorem over : Rows.chunkPushesRow.holds Try.pinned (OpenSpec.ofChange Rows.chunkPushesSpec) :=
  OpenClaim.holds_of_wide 14 Try.f14 rfl rfl rfl rfl rfl rfl rfl ⟨rfl, rfl, rfl, rfl, rfl⟩ rfl rfl rfl rfl rfl (by kernel_rfl) Try.func14 (by kernel_rfl)
    (of_decide_eq_true (by kernel_rfl)) (by unfold Func.isWrapper; first | (rw [if_pos (by decide +kernel)]; kernel_rfl) | (rw [if_neg (by decide +kernel)]; exact ⟨rfl, rfl⟩))
    (fun os started H enc _ => lifted os started H enc)

theorem proved : Rows.ChunkPushesSaid := over
#print axioms proved
end Go.Proofs.Ytneieogpdjlnbaa.chunkPushes
