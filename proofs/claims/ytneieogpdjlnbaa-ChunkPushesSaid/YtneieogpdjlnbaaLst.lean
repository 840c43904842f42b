/- Lists of rows of bytes in memory: read, owned, appended to. Conditions: those that each statement names. -/
import Derived.Test.YtneieogpdjlnbaaReg
set_option linter.unusedVariables false
set_option linter.unusedSimpArgs false
namespace Go.Proofs.Ytneieogpdjlnbaa
open Go Go.RowKit Go.Proofs.YtneieogpdjlnbaaW.PrintWords

theorem info22z : (Try.prog.info? 22).map (fun i => (i.zero, i.size, i.bytes)) = some (some (.slice none 0 0), 1, 24) := by kernel_rfl
theorem under39 : Try.prog.underlying 39 = some (.slice 22) := by kernel_rfl

/-- Rows of bytes of the call's own, vs the values, ls what they hold. -/
def Rows (w : World) (S : Nat → Prop) (vs : List Value) (ls : List (List Int)) : Prop := vs.length = ls.length ∧ ∀ j, j < ls.length → OwnB w S (vs.getD j undef) (ls.getD j [])
/-- A list of rows of bytes of the call's own, all in blocks S. -/
def OwnL (w : World) (S : Nat → Prop) (v : Value) (ls : List (List Int)) : Prop :=
  (v = .slice none 0 0 ∧ ls = []) ∨
    ∃ (g : Nat) (vs sp : List Value), v = .slice (some ⟨g, 0, none⟩) ls.length (ls.length + sp.length) ∧ S g ∧ ls.length + sp.length ≤ maxLen ∧ Blk w g 22 (vs ++ sp).toArray ∧ Rows w S vs ls
theorem OwnB.turn {w w' : World} {S : Nat → Prop} {v : Value} {xs : List Int} (h : OwnB w S v xs) (row : Option Nat) (hg : w.grownBy w' row) (hne : ∀ k, row = some k → ∀ cs, ¬ Blk w k 5 cs) : OwnB w' S v xs := by
  obtain ⟨hb, h⟩ := h
  rcases h with h | ⟨g, sp, e, hg1, h1, h2, h3⟩
  · exact ⟨hb, .inl h⟩
  · exact ⟨hb, .inr ⟨g, sp, e, hg1, h1, h2, h3.grown hg (fun he => hne g he.symm _ h3)⟩⟩
theorem not_bytes {w : World} {k t : Nat} {cs : Array Value} (h : Blk w k t cs) (ht : t ≠ 5) : ∀ cs', ¬ Blk w k 5 cs' := fun cs' h' => by
  unfold Blk at h h'
  rw [h] at h'
  injection h' with h'
  injection h' with _ h2
  exact ht h2
theorem not_rows {w : World} {k t : Nat} {cs : Array Value} (h : Blk w k t cs) (ht : t ≠ 22) : ∀ cs', ¬ Blk w k 22 cs' := fun cs' h' => by
  unfold Blk at h h'
  rw [h] at h'
  injection h' with h'
  injection h' with _ h2
  exact ht h2
theorem OwnB.val {w : World} {S : Nat → Prop} {v : Value} {xs : List Int} (h : OwnB w S v xs) : v.oneCell' = true := by
  obtain ⟨A, c, rfl⟩ := h.shape
  rfl
theorem Rows.turn {w w' : World} {S : Nat → Prop} {vs : List Value} {ls : List (List Int)} (h : Rows w S vs ls) (row : Option Nat) (hg : w.grownBy w' row) (hne : ∀ k, row = some k → ∀ cs, ¬ Blk w k 5 cs) : Rows w' S vs ls :=
  ⟨h.1, fun j hj => (h.2 j hj).turn row hg hne⟩
theorem Rows.keep {w w' : World} {S : Nat → Prop} {vs : List Value} {ls : List (List Int)} (h : Rows w S vs ls) (hk : ∀ k, S k → k < w.heap.size → w'.heap[k]? = w.heap[k]?) : Rows w' S vs ls := ⟨h.1, fun j hj => (h.2 j hj).keep hk⟩
theorem Rows.mono {w : World} {S S' : Nat → Prop} {vs : List Value} {ls : List (List Int)} (h : Rows w S vs ls) (hs : ∀ k, S k → k < w.heap.size → S' k) : Rows w S' vs ls := ⟨h.1, fun j hj => (h.2 j hj).mono hs⟩
theorem Rows.append {w : World} {S : Nat → Prop} {vs us : List Value} {ls ms : List (List Int)} (h : Rows w S vs ls) (k : Rows w S us ms) : Rows w S (vs ++ us) (ls ++ ms) :=
  ⟨by rw [List.length_append, List.length_append, h.1, k.1], fun j hj => by
    by_cases hlt : j < ls.length
    · have := h.2 j hlt
      simpa [List.getD_eq_getElem?_getD, List.getElem?_append_left hlt, List.getElem?_append_left (show j < vs.length by rw [h.1]; exact hlt)] using this
    · rw [List.length_append] at hj
      have := k.2 (j - ls.length) (by omega)
      simpa [List.getD_eq_getElem?_getD, List.getElem?_append_right (Nat.le_of_not_lt hlt), List.getElem?_append_right (show vs.length ≤ j by rw [h.1]; omega), h.1] using this⟩
theorem Rows.nil (w : World) (S : Nat → Prop) : Rows w S [] [] := ⟨rfl, fun j hj => by simp at hj⟩
theorem Rows.one {w : World} {S : Nat → Prop} {v : Value} {xs : List Int} (h : OwnB w S v xs) : Rows w S [v] [xs] := ⟨rfl, fun j hj => by
  obtain rfl : j = 0 := by simp at hj; omega
  exact h⟩
theorem Rows.vals {w : World} {S : Nat → Prop} {vs : List Value} {ls : List (List Int)} (h : Rows w S vs ls) : ∀ u ∈ vs, u.oneCell' = true := by
  intro u hu
  obtain ⟨j, hj, rfl⟩ := List.mem_iff_getElem.1 hu
  have := (h.2 j (by rw [← h.1]; exact hj)).val
  simpa [List.getD_eq_getElem?_getD, List.getElem?_eq_getElem hj] using this
theorem OwnL.nil (w : World) (S : Nat → Prop) : OwnL w S (.slice none 0 0) [] := .inl ⟨rfl, rfl⟩
theorem OwnL.mono {w : World} {S S' : Nat → Prop} {v : Value} {ls : List (List Int)} (h : OwnL w S v ls) (hs : ∀ k, S k → k < w.heap.size → S' k) : OwnL w S' v ls := by
  rcases h with h | ⟨g, vs, sp, e, hg, h1, h2, h3⟩
  · exact .inl h
  · exact .inr ⟨g, vs, sp, e, hs g hg h2.lt, h1, h2, h3.mono hs⟩
theorem OwnL.keep {w w' : World} {S : Nat → Prop} {v : Value} {ls : List (List Int)} (h : OwnL w S v ls) (hk : ∀ k, S k → k < w.heap.size → w'.heap[k]? = w.heap[k]?) : OwnL w' S v ls := by
  rcases h with h | ⟨g, vs, sp, e, hg, h1, h2, h3⟩
  · exact .inl h
  · exact .inr ⟨g, vs, sp, e, hg, h1, (hk g hg h2.lt).trans h2, h3.keep hk⟩
theorem OwnL.shape {w : World} {S : Nat → Prop} {v : Value} {ls : List (List Int)} (h : OwnL w S v ls) : ∃ A c, v = .slice A ls.length c := by
  rcases h with ⟨e, rfl⟩ | ⟨g, vs, sp, e, _⟩
  · exact ⟨none, 0, e⟩
  · exact ⟨_, _, e⟩
theorem OwnL.base {w : World} {S : Nat → Prop} {v : Value} {ls : List (List Int)} (h : OwnL w S v ls) : ∀ k, v.ownBlock = some k → S k ∧ ∃ cs, Blk w k 22 cs := by
  intro k hk
  rcases h with ⟨rfl, _⟩ | ⟨g, vs, sp, rfl, hg, h1, h2, h3⟩
  · simp [Value.ownBlock] at hk
  · simp [Value.ownBlock] at hk
    subst hk
    exact ⟨hg, _, h2⟩
theorem OwnL.turn {w w' : World} {S : Nat → Prop} {v : Value} {ls : List (List Int)} (h : OwnL w S v ls) (row : Option Nat) (hg : w.grownBy w' row) (hne : ∀ k, row = some k → ∀ cs, ¬ Blk w k 5 cs) (hne2 : ∀ k, row = some k → ∀ cs, ¬ Blk w k 22 cs) : OwnL w' S v ls := by
  rcases h with h | ⟨g, vs, sp, e, hg1, h1, h2, h3⟩
  · exact .inl h
  · exact .inr ⟨g, vs, sp, e, hg1, h1, h2.grown hg (fun he => hne2 g he.symm _ h2), h3.turn row hg hne⟩
/-- What is no cells has turned. -/
def NoCells (w : World) (row : Option Nat) : Prop := ∀ r, row = some r → ∃ o : Obj, w.heap[r]? = some o ∧ o.isCells = false
theorem NoCells.ne {w : World} {row : Option Nat} (h : NoCells w row) : ∀ k, row = some k → ∀ (t : TypeId) cs, ¬ Blk w k t cs := fun k hk t cs hb => by
  obtain ⟨o, ho, hc⟩ := h k hk
  unfold Blk at hb
  rw [ho] at hb
  injection hb with hb
  rw [hb] at hc
  cases hc
theorem RdS.turn {w w' : World} {S : Nat → Prop} {A : Option Addr} {xs : List Int} (h : RdS w S A xs) {row : Option Nat} (hg : w.grownBy w' row) (hn : NoCells w row) : RdS w' S A xs :=
  ⟨h.1, h.2.1, fun hp => by
    obtain ⟨ad, e, hs, hc⟩ := h.2.2 hp
    exact ⟨ad, e, hs, fun j hj => cell_kept (hc j hj) hg hn⟩⟩
theorem zeroCells_rows (n : Nat) : Builtin.zeroCells (Value.slice none 0 0).cells n = (List.replicate n (Value.slice none 0 0)).toArray := by
  apply Array.ext
  · simp [size_zeroCells, Value.cells]
  · intro i h1 h2
    simp [Builtin.zeroCells, Value.cells, Nat.mod_one]

/-- append(v, us...), v a list of rows of one's own, us rows of one's own too. -/
theorem run_append_rows (W : World) (S : Nat → Prop) (v : Value) (ls ms : List (List Int)) (us : List Value) (hown : OwnL W S v ls) (hu : Rows W S us ms) (A : Option Addr) (c : Nat) (ty : TypeId)
    (hr : 0 < ms.length → ∃ ad, A = some ad ∧ ∀ j u, us[j]? = some u → W.cell? (ad.add j) = some u) (hlen : ls.length + ms.length ≤ 1000000) (hS : S W.heap.size) :
    ∃ v' w', (Builtin.append_ #[39, 39] ty #[v, .slice A ms.length c]).run Try.prog W = .ok v' w' ∧ OwnL w' S v' (ls ++ ms) ∧ W.grownBy w' v.ownBlock ∧ (v'.ownBlock = v.ownBlock ∨ v'.ownBlock = some W.heap.size) := by
  obtain ⟨i, hi, hzz⟩ := Option.map_eq_some_iff.1 info22z
  simp only [Prod.mk.injEq] at hzz
  obtain ⟨hz, hsz, hby⟩ := hzz
  have ht := under39
  have hul := hu.1
  rcases Nat.eq_zero_or_pos ms.length with h0 | h0
  · obtain rfl : ms = [] := List.eq_nil_of_length_eq_zero h0
    refine ⟨v, W, ?_, by simpa using hown, World.grownBy.refl W _, .inl rfl⟩
    rcases hown with ⟨rfl, rfl⟩ | ⟨g, vs, sp, rfl, hg, h1, h2, h3⟩
    · rcases A with _ | ad
      · simp [Builtin.append_, run_underlying ht, sizeOf, typeInfo, hi, Builtin.lenOf, Builtin.firstCells]
      · simp [Builtin.append_, run_underlying ht, sizeOf, typeInfo, hi, Builtin.lenOf, Builtin.firstCells, loadCells, loadCellsFrom]
    · rcases A with _ | ad
      · simp [Builtin.append_, run_underlying ht, sizeOf, typeInfo, hi, Builtin.lenOf, Builtin.firstCells, storeCells]
      · simp [Builtin.append_, run_underlying ht, sizeOf, typeInfo, hi, Builtin.lenOf, Builtin.firstCells, loadCells, loadCellsFrom, storeCells]
  · obtain ⟨ad, rfl, hnews⟩ := hr h0
    have hsu : us.length = ms.length * i.size := by rw [hsz, hul, Nat.mul_one]
    have grown : ∀ (old : Nat) (vs : List Value), Rows W S vs ls → OwnL (W.drew.alloc (.cells (vs.toArray ++ us.toArray ++ Builtin.zeroCells (Value.slice none 0 0).cells (grownCap W (ls.length + ms.length) old 22 - (ls.length + ms.length))) 22)) S
        (.slice (some ⟨W.heap.size, 0, none⟩) (ls.length + ms.length) (grownCap W (ls.length + ms.length) old 22)) (ls ++ ms) := by
      intro old vs hvs
      have hge := grownCap_ge W (ls.length + ms.length) old 22
      have hcm : grownCap W (ls.length + ms.length) old 22 ≤ maxLen := grownCap_le_maxLen W (ls.length + ms.length) old 22 (by simp only [maxLen]; omega)
      refine .inr ⟨W.heap.size, vs ++ us, List.replicate (grownCap W (ls.length + ms.length) old 22 - (ls.length + ms.length)) (.slice none 0 0), ?_, hS, ?_, ?_, ?_⟩
      · rw [List.length_append, List.length_replicate, show ls.length + ms.length + (grownCap W (ls.length + ms.length) old 22 - (ls.length + ms.length)) = grownCap W (ls.length + ms.length) old 22 from by omega]
      · rw [List.length_append, List.length_replicate]; omega
      · rw [zeroCells_rows]
        have hb := Blk.new W.drew 22 (vs.toArray ++ us.toArray ++ (List.replicate (grownCap W (ls.length + ms.length) old 22 - (ls.length + ms.length)) (Value.slice none 0 0)).toArray)
        simp only [List.append_toArray] at hb ⊢
        exact hb
      · exact (hvs.append hu).turn none ⟨rfl, rfl, rfl, by simp, fun k hk _ => Below.heap_alloc W.drew _ k hk⟩ (fun k hk => by cases hk)
    have gby : ∀ (o : Obj) (row : Option Nat), W.grownBy (W.drew.alloc o) row := fun o row => ⟨rfl, rfl, rfl, by simp, fun k hk _ => Below.heap_alloc W.drew o k hk⟩
    rcases hown with ⟨rfl, rfl⟩ | ⟨g, vs, sp, rfl, hg, h1, h2, h3⟩
    · have hrun := run_append_nil (P := Try.prog) W 39 ty 22 i _ ht hi hz ad ms.length c us hsu hnews h0 (by simp at hlen; omega) (by rw [hby]; simp at hlen; omega)
      have hg0 := grown 0 [] (Rows.nil _ _)
      simp only [List.length_nil, Nat.zero_add, List.nil_append, Array.empty_append] at hg0 hrun ⊢
      exact ⟨_, _, hrun, hg0, gby _ _, .inr rfl⟩
    · have hvl := h3.1
      by_cases hroom : ls.length + ms.length ≤ ls.length + sp.length
      · have hrun := run_append_room (P := Try.prog) W 39 ty 22 i ht hi g ls.length (ls.length + sp.length) _ h2 ad ms.length c us hsu hnews hu.vals hroom (by rw [hsz]; simp; omega)
        have hrow := setRow_heap W g _ ((vs ++ us) ++ sp.drop ms.length).toArray 22 (0, 0) h2
        have e : (List.take (ls.length * i.size) (vs ++ sp).toArray.toList ++ us ++ List.drop (ls.length * i.size + us.length) (vs ++ sp).toArray.toList) = (vs ++ us) ++ sp.drop ms.length := by
          rw [hsz, Nat.mul_one, ← hvl, List.take_left]
          simp [List.drop_append, hul]
        rw [e] at hrun
        have hgr : W.grownBy (W.setRow g ((vs ++ us) ++ sp.drop ms.length).toArray) (some g) := ⟨rfl, rfl, rfl, by simp, fun k _ hk => setRow_other W g k _ (fun e => hk (by simp [e]))⟩
        refine ⟨_, _, hrun, .inr ⟨g, vs ++ us, sp.drop ms.length, ?_, hg, ?_, hrow, (h3.append hu).turn (some g) hgr (fun k hk => by cases hk; exact not_bytes h2 (by decide))⟩, hgr, .inl rfl⟩
        · rw [List.length_append, List.length_drop, show ls.length + ms.length + (sp.length - ms.length) = ls.length + sp.length from by omega]
        · rw [List.length_append, List.length_drop]; omega
      · have holds : ∀ j u, vs[j]? = some u → W.cell? ((⟨g, 0, none⟩ : Addr).add j) = some u := by
          intro j u hu
          have hj : j < vs.length := by
            rcases Nat.lt_or_ge j vs.length with h | h
            · exact h
            · rw [List.getElem?_eq_none h] at hu; cases hu
          rw [add_plain, h2.cell j, List.getElem?_toArray, List.getElem?_append_left hj]
          exact hu
        have hrun := run_append_grow (P := Try.prog) W 39 ty 22 i _ ht hi hz ⟨g, 0, none⟩ ls.length (ls.length + sp.length) vs (by rw [hsz, hvl, Nat.mul_one]) holds ad ms.length c us hsu hnews (by omega) (by omega) (growslice_fits (by omega) (by rw [hby]; omega))
        exact ⟨_, _, hrun, grown _ vs h3, gby _ _, .inr rfl⟩
section
variable {ops : Array Oper} {rest : List Oper} {o : Oper} {a : Act} {Q : Exit → Act → World → Prop}
theorem wp_append_rows {K : Act → World → Prop} (W : World) (s x : Operand) (ho : o.op = .call { callee := .builtin .append, args := #[s, x], argTypes := #[39, 39] })
    (S : Nat → Prop) (v : Value) (ls ms : List (List Int)) (us : List Value) (hs : a.eval s = v) (hown : OwnL W S v ls) (hu : Rows W S us ms) (A : Option Addr) (c n : Nat) (hn : n = ms.length) (hx : a.eval x = .slice A n c)
    (hr : 0 < ms.length → ∃ ad, A = some ad ∧ ∀ j u, us[j]? = some u → W.cell? (ad.add j) = some u) (hlen : ls.length + ms.length ≤ 1000000) (hS : S W.heap.size)
    (h : ∀ v' w', OwnL w' S v' (ls ++ ms) → W.grownBy w' v.ownBlock → (v'.ownBlock = v.ownBlock ∨ v'.ownBlock = some W.heap.size) → K (a.put o.dst v') w') : o.wp Try.prog a W K Q := by
  subst hn
  obtain ⟨v', w', hrun, h2, h3, h4⟩ := run_append_rows W S v ls ms us hown hu A c o.type hr hlen hS
  unfold Oper.wp execOp
  simp only [ho, resolve, invoke, builtin, Sem.run_bind, Sem.run_pure, Result.andThen_ok, List.map_toArray, List.map_cons, List.map_nil, hs, hx, hrun]
  exact h v' w' h2 h3 h4
theorem wpList_append_rows (W : World) (hgd : o.guard = none) (s x : Operand) (ho : o.op = .call { callee := .builtin .append, args := #[s, x], argTypes := #[39, 39] })
    (S : Nat → Prop) (v : Value) (ls ms : List (List Int)) (us : List Value) (hs : a.eval s = v) (hown : OwnL W S v ls) (hu : Rows W S us ms) (A : Option Addr) (c n : Nat) (hn : n = ms.length) (hx : a.eval x = .slice A n c)
    (hr : 0 < ms.length → ∃ ad, A = some ad ∧ ∀ j u, us[j]? = some u → W.cell? (ad.add j) = some u) (hlen : ls.length + ms.length ≤ 1000000) (hS : S W.heap.size)
    (h : ∀ v' w', OwnL w' S v' (ls ++ ms) → W.grownBy w' v.ownBlock → (v'.ownBlock = v.ownBlock ∨ v'.ownBlock = some W.heap.size) → wpList Try.prog ops Q rest (a.put o.dst v') w') : wpList Try.prog ops Q (o :: rest) a W :=
  wpList_plain hgd fun _ hK => wp_append_rows W s x ho S v ls ms us hs hown hu A c n hn hx hr hlen hS fun v' w' h2 h3 h4 => hK _ _ (h v' w' h2 h3 h4)
end
theorem new_cell (W : World) (u : Value) (t : TypeId) : ∀ j x, [u][j]? = some x → (W.alloc (.cells #[u] t)).cell? ((⟨W.heap.size, 0, none⟩ : Addr).add j) = some x := by
  intro j x hx
  have hj : j = 0 := by
    rcases j with _ | j
    · rfl
    · simp at hx
  subst hj
  rw [add_plain, (Blk.new W t #[u]).cell 0]
  simpa using hx
end Go.Proofs.Ytneieogpdjlnbaa
