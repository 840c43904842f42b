/- Regions that draw their order in the body of a loop over a function, and loads that are taken first where a later operation of the region overwrites their cell. Conditions: those that each statement names. -/
import Derived.Test.YtneieogpdjlnbaaChB
set_option linter.unusedVariables false
set_option linter.unusedSimpArgs false
namespace Go.Proofs.Ytneieogpdjlnbaa
open Go Go.RowKit Go.Proofs.YtneieogpdjlnbaaW.PrintWords

/-! ### What is shown of a region under no fence holds in a round -/
section
variable {l n : Nat} {P : Program} {ops : Array Oper} {Q : Exit → Act → World → Prop}
def noDefer (o : Oper) : Bool := match o.op with | .defer _ => false | _ => true
theorem noDefer_spec {o : Oper} (h : noDefer o = true) : ∀ c, o.op ≠ .defer c := by
  intro c e
  simp [noDefer, e] at h
theorem op_round {o : Oper} {a : Act} {w : World} {K : Act → World → Prop} (hd : noDefer o = true) (hQ : ¬ LetsOut Q) (h : o.wp P a w K Q ∨ (o.asks P a w ∧ LetsOut Q)) : o.wpIn (Fence.wide.inRound l) n P a w K Q := by
  rcases h with h | h
  · refine ⟨fun _ _ => trivial, ?_⟩
    have e : o.semAt (Fence.wide.inRound l).round a.eval = execOp a.eval o := Oper.semAt_eq _ _ _ (noDefer_spec hd)
    rw [e]
    unfold Oper.wp at h
    generalize (execOp a.eval o).run P w = r at h ⊢
    cases r with
    | ok x w' =>
      cases x <;> simp only [Oper.upon, Oper.uponIn] at h ⊢
      case value => exact h
      case skip => exact h
      case defer => exact h
      case enter f args => exact ⟨fun hh => by simp [Fence.wide, Fence.inRound] at hh, CallsIn.inRound l (callsIn_wide.2 h)⟩
      case row row args => exact ⟨fun hh => by simp [Fence.wide, Fence.inRound] at hh, fun c cs _ => by
        obtain ⟨v, w'', r, s⟩ := h c cs
        exact ⟨v, w'', r, stepsIn_wide.2 s⟩⟩
    | halt x w' =>
      cases x <;> simp only [Oper.upon, Oper.uponIn] at h ⊢
      case panic => exact h
  · exact (hQ h.2).elim
theorem any_round (hd : ops.all noDefer = true) (hQ : ¬ LetsOut Q) {md : Region.Mode} : ∀ (fuel : Nat) (listed : Array Bool) (a : Act) (w : World), wpAny P md ops Q fuel listed a w → wpAnyIn (Fence.wide.inRound l) n P md ops Q fuel listed a w
  | 0, _, _, _, h => h
  | fuel + 1, listed, a, w, h => ⟨h.1, fun i hi => by
    have h2 := h.2 i hi
    unfold wpOp at h2
    unfold wpOpIn
    cases ho : ops[i]? with
    | none =>
      simp only [ho] at h2 ⊢
      exact any_round hd hQ fuel _ _ _ h2
    | some o =>
      simp only [ho] at h2 ⊢
      have hdo : noDefer o = true := Array.all_eq_true_iff_forall_mem.1 hd o (Array.mem_of_getElem? ho)
      by_cases hw : Region.wanted o (yielded ops a.tmps) = true
      · rw [if_pos hw] at h2 ⊢
        refine op_round hdo hQ (h2.imp (fun h3 => ?_) id)
        exact Oper.wp_mono (fun a' w' h4 => any_round hd hQ fuel _ a' w' h4) h3
      · rw [if_neg hw] at h2 ⊢
        exact ⟨fun _ _ => trivial, any_round hd hQ fuel _ _ _ h2⟩⟩
theorem region_round {id : Nat} {a : Act} {w : World} (hm : P.follows .mixedOrders = true) (hd : ops.all noDefer = true) (hQ : ¬ LetsOut Q)
    (h : wpAny P .any ops Q ops.size (Array.replicate ops.size false) a w.drew) : (Code.region id ops true).wpIn (Fence.wide.inRound l) n P Q a w :=
  wpIn_region_any hm (any_round hd hQ _ _ _ _ h)
end

/-! ### Loads taken first, though an operation c of the region, that waits for them, overwrites their cell -/
section
variable {P : Program} {ops : Array Oper} {Q : Exit → Act → World → Prop} {md : Region.Mode} {S : World → Prop} {c : Nat}
/-- All orders from here on; S holds behind each operation for as long as c has not come. -/
def wpTill (P : Program) (md : Region.Mode) (ops : Array Oper) (Q : Exit → Act → World → Prop) (S : World → Prop) (c : Nat) : Nat → Array Bool → Act → World → Prop
  | 0, listed, a, w => Region.ready md ops listed = [] ∧ Q .normal a w
  | fuel + 1, listed, a, w => (Region.ready md ops listed = [] → Q .normal a w) ∧
    ∀ i ∈ Region.ready md ops listed, wpOp P ops Q i (fun a' w' => ((listed.setIfInBounds i true).getD c false = false → S w') ∧ wpTill P md ops Q S c fuel (listed.setIfInBounds i true) a' w') a w
theorem wpAny_of_till : ∀ (fuel : Nat) (listed : Array Bool) (a : Act) (w : World), wpTill P md ops Q S c fuel listed a w → wpAny P md ops Q fuel listed a w
  | 0, _, _, _, h => h
  | fuel + 1, _, _, _, h => ⟨h.1, fun i hi => wpOp_mono (fun a' w' h' => wpAny_of_till fuel _ a' w' h'.2) (h.2 i hi)⟩
theorem unlisted {listed : Array Bool} {i : Nat} (h : listed.getD i true = false) : listed.getD i false = false := by
  by_cases hs : i < listed.size
  · simpa [hs] using h
  · simp [Array.getElem?_eq_none (Nat.le_of_not_lt hs)] at h
theorem wpTill_first {i : Nat} {oi : Oper} {v : Value} (hi : ops[i]? = some oi) (hsel : Region.noSelect ops = true) (hQ : ∀ ch a w, Q (.panic ch) (a.put oi.dst v) w → Q (.panic ch) a w)
    (hic : i ≠ c) (hwait : Region.waitsFor md ops c i = true) (fuel : Nat) : ∀ (listed : Array Bool) (a : Act) (w : World),
      (∀ j oj, ops[j]? = some oj → j ≠ i → listed.getD j true = false → (∀ e ∈ oj.after, Region.binds md e = true → e.on ≠ i) → oi.apart ops oj = true) →
      i ∈ Region.ready md ops listed → YieldsIf P ops S oi v a → listed.getD c false = false → S w →
      wpTill P md ops Q S c fuel (listed.setIfInBounds i true) (a.put oi.dst v) w → wpTill P md ops Q S c (fuel + 1) listed a w := by
  induction fuel with
  | zero =>
    intro listed a w _ hr hy hc hS H
    refine ⟨fun h0 => absurd hr (by rw [h0]; simp), fun j hj => ?_⟩
    by_cases e : j = i
    · rw [e]
      exact hy.wpOp hi hS ⟨fun _ => hS, H⟩
    · have hmem := ready_mono hj e
      rw [H.1] at hmem
      cases hmem
  | succ fuel ih =>
    intro listed a w hfree hr hy hc hS H
    refine ⟨fun h0 => absurd hr (by rw [h0]; simp), fun j hj => ?_⟩
    by_cases e : j = i
    · rw [e]
      exact hy.wpOp hi hS ⟨fun _ => hS, H⟩
    · have hstep := H.2 j (ready_mono hj e)
      obtain ⟨hju, oj, hoj, hafter⟩ := mem_ready.1 hj
      have hiu : listed.getD i false = false := unlisted (mem_ready.1 hr).1
      have hno : ∀ x ∈ oj.after, Region.binds md x = true → x.on ≠ i := by
        intro x hx hb heq
        have := hafter x hx hb
        rw [heq, hiu] at this
        cases this
      have hjc : j ≠ c := by
        rintro rfl
        obtain ⟨o', ho', x, hx, hb, hon⟩ := Region.waitsFor_spec hwait
        rw [hoj] at ho'
        cases ho'
        exact hno x hx hb hon
      have hcj : (listed.setIfInBounds j true).getD c false = false := by rw [Go.getD_set_ne false hjc]; exact hc
      have hcij : ((listed.setIfInBounds i true).setIfInBounds j true).getD c false = false := by rw [Go.getD_set_ne false hjc, Go.getD_set_ne false hic]; exact hc
      have hput := wpOp_putIf hoj (hfree j oj hoj e hju hno) (fun cs b => Region.noSelect_spec hsel i oi cs b hi) (fun cs b => Region.noSelect_spec hsel j oj cs b hoj) hQ hy hstep
      refine wpOp_mono ?_ hput
      rintro a' w' ⟨hy', hSw, hH⟩
      have hS' := hSw hcij
      refine ⟨fun _ => hS', ih (listed.setIfInBounds j true) a' w' ?_ (ready_mono hr (Ne.symm e)) hy' hcj hS' ?_⟩
      · intro k ok hk hki hku hkn
        refine hfree k ok hk hki ?_ hkn
        by_cases ejk : j = k
        · rw [← ejk]; exact hju
        · rw [Go.getD_set_ne true ejk] at hku
          exact hku
      · rw [Array.setIfInBounds_comm _ _ e]
        exact hH
theorem wpTill_take {fuel : Nat} {listed : Array Bool} {a : Act} {w : World} (i : Nat) {oi : Oper} (v : Value) (hi : ops[i]? = some oi) (hsel : Region.noSelect ops = true) (hf : Region.free md ops listed i = true)
    (hr : (Region.ready md ops listed).contains i = true) (hic : (i == c) = false) (hwait : Region.waitsFor md ops c i = true) (hc : listed.getD c false = false) (hw : Region.wanted oi (yielded ops a.tmps) = true)
    (hQ : ∀ ch a w, Q (.panic ch) (a.put oi.dst v) w → Q (.panic ch) a w) (hS : S w)
    (hy : ∀ w, S w → (execOp a.eval oi).run P w = .ok (.value v) w) (h : wpTill P md ops Q S c fuel (listed.setIfInBounds i true) (a.put oi.dst v) w) : wpTill P md ops Q S c (fuel + 1) listed a w :=
  wpTill_first hi hsel hQ (by simpa using hic) hwait fuel listed a w (Region.free_spec hi hf) (by simpa using hr) (.inl ⟨hw, hy⟩) hc hS h
theorem wpTill_firstW {i : Nat} {oi : Oper} {v : Value} (hi : ops[i]? = some oi) (hsel : Region.noSelect ops = true) (hQ : ∀ ch a w, Q (.panic ch) (a.put oi.dst v) w → Q (.panic ch) a w)
    (hic : i ≠ c) (fuel : Nat) : ∀ (listed : Array Bool) (a : Act) (w : World),
      (∀ j oj, ops[j]? = some oj → j ≠ i → listed.getD j true = false → (∀ e ∈ oj.after, Region.binds md e = true → e.on ≠ i) → oi.apart ops oj = true) →
      i ∈ Region.ready md ops listed → YieldsIf P ops (fun _ => True) oi v a → (listed.getD c false = false → S w) →
      wpTill P md ops Q S c fuel (listed.setIfInBounds i true) (a.put oi.dst v) w → wpTill P md ops Q S c (fuel + 1) listed a w := by
  induction fuel with
  | zero =>
    intro listed a w _ hr hy hS H
    refine ⟨fun h0 => absurd hr (by rw [h0]; simp), fun j hj => ?_⟩
    by_cases e : j = i
    · rw [e]
      exact hy.wpOp hi trivial ⟨fun hc => hS (by rwa [Go.getD_set_ne false hic] at hc), H⟩
    · have hmem := ready_mono hj e
      rw [H.1] at hmem
      cases hmem
  | succ fuel ih =>
    intro listed a w hfree hr hy hS H
    refine ⟨fun h0 => absurd hr (by rw [h0]; simp), fun j hj => ?_⟩
    by_cases e : j = i
    · rw [e]
      exact hy.wpOp hi trivial ⟨fun hc => hS (by rwa [Go.getD_set_ne false hic] at hc), H⟩
    · have hstep := H.2 j (ready_mono hj e)
      obtain ⟨hju, oj, hoj, hafter⟩ := mem_ready.1 hj
      have hiu : listed.getD i false = false := unlisted (mem_ready.1 hr).1
      have hno : ∀ x ∈ oj.after, Region.binds md x = true → x.on ≠ i := by
        intro x hx hb heq
        have := hafter x hx hb
        rw [heq, hiu] at this
        cases this
      have hput := wpOp_putIf hoj (hfree j oj hoj e hju hno) (fun cs b => Region.noSelect_spec hsel i oi cs b hi) (fun cs b => Region.noSelect_spec hsel j oj cs b hoj) hQ hy hstep
      refine wpOp_mono ?_ hput
      rintro a' w' ⟨hy', hSw, hH⟩
      have hS' : (listed.setIfInBounds j true).getD c false = false → S w' := fun hc => hSw (by
        rw [Array.setIfInBounds_comm _ _ (Ne.symm e), Go.getD_set_ne false hic]
        exact hc)
      refine ⟨hS', ih (listed.setIfInBounds j true) a' w' ?_ (ready_mono hr (Ne.symm e)) hy' hS' ?_⟩
      · intro k ok hk hki hku hkn
        refine hfree k ok hk hki ?_ hkn
        by_cases ejk : j = k
        · rw [← ejk]; exact hju
        · rw [Go.getD_set_ne true ejk] at hku
          exact hku
      · rw [Array.setIfInBounds_comm _ _ e]
        exact hH
/-- What yields in whatever world is taken first, whoever waits for it. -/
theorem wpTill_takeW {fuel : Nat} {listed : Array Bool} {a : Act} {w : World} (i : Nat) {oi : Oper} (v : Value) (hi : ops[i]? = some oi) (hsel : Region.noSelect ops = true) (hf : Region.free md ops listed i = true)
    (hr : (Region.ready md ops listed).contains i = true) (hic : (i == c) = false) (hw : Region.wanted oi (yielded ops a.tmps) = true)
    (hQ : ∀ ch a w, Q (.panic ch) (a.put oi.dst v) w → Q (.panic ch) a w) (hS : S w)
    (hy : ∀ w, (execOp a.eval oi).run P w = .ok (.value v) w) (h : wpTill P md ops Q S c fuel (listed.setIfInBounds i true) (a.put oi.dst v) w) : wpTill P md ops Q S c (fuel + 1) listed a w :=
  wpTill_firstW hi hsel hQ (by simpa using hic) fuel listed a w (Region.free_spec hi hf) (by simpa using hr) (.inl ⟨hw, fun w _ => hy w⟩) (fun _ => hS) h
/-- The one operation that may come. -/
theorem wpTill_one {fuel : Nat} {listed : Array Bool} {a : Act} {w : World} (i : Nat) {o : Oper} (ho : ops[i]? = some o) (hr : Region.ready md ops listed = [i]) (hw : Region.wanted o (yielded ops a.tmps) = true)
    (h : ∀ K : Act → World → Prop, Hid (∀ a' w', ((listed.setIfInBounds i true).getD c false = false → S w') → wpTill P md ops Q S c fuel (listed.setIfInBounds i true) a' w' → K a' w') → o.wp P a w K Q) : wpTill P md ops Q S c (fuel + 1) listed a w :=
  ⟨fun h0 => (by rw [h0] at hr; cases hr), fun j hj => by
    rw [hr, List.mem_singleton] at hj
    subst hj
    refine wpOp_step ho fun K hK => ?_
    rw [if_pos hw]
    exact h K (fun a' w' h1 h2 => hK a' w' ⟨h1, h2⟩)⟩
/-- The same where c comes, or has come. -/
theorem wpTill_past {fuel : Nat} {listed : Array Bool} {a : Act} {w : World} (i : Nat) {o : Oper} (ho : ops[i]? = some o) (hr : Region.ready md ops listed = [i]) (hw : Region.wanted o (yielded ops a.tmps) = true)
    (hp : (listed.setIfInBounds i true).getD c false = true)
    (h : ∀ K : Act → World → Prop, Hid (∀ a' w', wpTill P md ops Q S c fuel (listed.setIfInBounds i true) a' w' → K a' w') → o.wp P a w K Q) : wpTill P md ops Q S c (fuel + 1) listed a w :=
  wpTill_one i ho hr hw (fun K hK => h K (fun a' w' h2 => hK a' w' (fun hc => absurd (hp.symm.trans hc) (by simp)) h2))
theorem wpTill_done {listed : Array Bool} {a : Act} {w : World} (hr : Region.ready md ops listed = []) (h : Q .normal a w) : ∀ fuel, wpTill P md ops Q S c fuel listed a w
  | 0 => ⟨hr, h⟩
  | _ + 1 => ⟨fun _ => h, by rw [hr]; simp⟩
end
end Go.Proofs.Ytneieogpdjlnbaa
