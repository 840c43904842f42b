/- Words for bytes in memory: slices of bytes that are read, rows of bytes that a call owns, and what an append makes of them. Conditions: those that each statement names. -/
import Derived.Test.YtneieogpdjlnbaaRollC
set_option linter.unusedVariables false
set_option linter.unusedSimpArgs false
namespace Go.Proofs.Ytneieogpdjlnbaa
open Go.RowKit Go.Proofs.YtneieogpdjlnbaaW.PrintWords

/-- A slice of bytes that is read; its block is one of S. -/
def RdS (w : World) (S : Nat → Prop) (A : Option Addr) (xs : List Int) : Prop :=
  IsBytes xs ∧ xs.length ≤ 140737488355328 ∧ (0 < xs.length → ∃ ad, A = some ad ∧ S ad.block ∧ ∀ j, j < xs.length → w.cell? (ad.add j) = some (.int .u8 (xs.getD j 0)))
theorem RdB.rdS {w : World} {B : Nat} {A : Option Addr} {xs : List Int} (h : RdB w B A xs) : RdS w (· < B) A xs := h
theorem RdS.rdB {w : World} {S : Nat → Prop} {A : Option Addr} {xs : List Int} (h : RdS w S A xs) : RdB w w.heap.size A xs :=
  ⟨h.1, h.2.1, fun hp => by
    obtain ⟨ad, e, _, hc⟩ := h.2.2 hp
    exact ⟨ad, e, by have := World.block_lt_of_cell? w _ (hc 0 hp); rwa [block_of_add] at this, hc⟩⟩
theorem RdS.mono {w : World} {S S' : Nat → Prop} {A : Option Addr} {xs : List Int} (h : RdS w S A xs) (hs : ∀ k, S k → k < w.heap.size → S' k) : RdS w S' A xs :=
  ⟨h.1, h.2.1, fun hp => by
    obtain ⟨ad, e, hk, hc⟩ := h.2.2 hp
    exact ⟨ad, e, hs _ hk (by have := World.block_lt_of_cell? w _ (hc 0 hp); rwa [block_of_add] at this), hc⟩⟩
theorem RdS.keep {w w' : World} {S : Nat → Prop} {A : Option Addr} {xs : List Int} (h : RdS w S A xs) (hk : ∀ k, S k → k < w.heap.size → w'.heap[k]? = w.heap[k]?) : RdS w' S A xs :=
  ⟨h.1, h.2.1, fun hp => by
    obtain ⟨ad, e, hs, hc⟩ := h.2.2 hp
    have hlt : ad.block < w.heap.size := by have := World.block_lt_of_cell? w _ (hc 0 hp); rwa [block_of_add] at this
    exact ⟨ad, e, hs, fun j hj => (World.cell?_of_block (by rw [block_of_add]; exact hk _ hs hlt)).trans (hc j hj)⟩⟩
theorem RdB.reads {w : World} {B : Nat} {A : Option Addr} {xs : List Int} (h : RdB w B A xs) : ReadsInt w .u8 A xs.length xs :=
  ⟨rfl, by have := h.2.1; omega, fun hp => by
    obtain ⟨ad, e, _, hc⟩ := h.2.2 hp
    exact ⟨ad, e, hc⟩⟩
theorem RdB.nil (w : World) (B : Nat) (A : Option Addr) : RdB w B A [] := ⟨fun x hx => by simp at hx, by simp, fun hp => by simp at hp⟩

/-- A row of bytes of the call's own, in one of the blocks S: nil, or from the block's front on, its spare room bytes too. -/
def OwnB (w : World) (S : Nat → Prop) (v : Value) (xs : List Int) : Prop :=
  IsBytes xs ∧ ((v = .slice none 0 0 ∧ xs = []) ∨
    ∃ (g : Nat) (sp : List Int), v = .slice (some ⟨g, 0, none⟩) xs.length (xs.length + sp.length) ∧ S g ∧ IsBytes sp ∧ xs.length + sp.length ≤ maxLen ∧ Blk w g 5 (nums .u8 (xs ++ sp)).toArray)
theorem OwnB.nil (w : World) (S : Nat → Prop) : OwnB w S (.slice none 0 0) [] := ⟨fun x hx => by simp at hx, .inl ⟨rfl, rfl⟩⟩
theorem OwnB.mono {w : World} {S S' : Nat → Prop} {v : Value} {xs : List Int} (h : OwnB w S v xs) (hs : ∀ k, S k → k < w.heap.size → S' k) : OwnB w S' v xs := by
  obtain ⟨hb, h⟩ := h
  rcases h with h | ⟨g, sp, e, hg, h1, h2, h3⟩
  · exact ⟨hb, .inl h⟩
  · exact ⟨hb, .inr ⟨g, sp, e, hs g hg h3.lt, h1, h2, h3⟩⟩
theorem OwnB.keep {w w' : World} {S : Nat → Prop} {v : Value} {xs : List Int} (h : OwnB w S v xs) (hk : ∀ k, S k → k < w.heap.size → w'.heap[k]? = w.heap[k]?) : OwnB w' S v xs := by
  obtain ⟨hb, h⟩ := h
  rcases h with h | ⟨g, sp, e, hg, h1, h2, h3⟩
  · exact ⟨hb, .inl h⟩
  · exact ⟨hb, .inr ⟨g, sp, e, hg, h1, h2, (hk g hg h3.lt).trans h3⟩⟩
theorem nums_row (xs sp : List Int) (j : Nat) (hj : j < xs.length) : (nums .u8 (xs ++ sp)).toArray[j]? = some (.int .u8 (xs.getD j 0)) := by
  rw [List.getElem?_toArray, nums_append, List.getElem?_append_left (by rw [nums_length]; exact hj)]
  simp [nums, List.getD_eq_getElem?_getD, List.getElem?_eq_getElem hj]
/-- The value's shape, and that it is read. -/
theorem OwnB.rd {w : World} {S : Nat → Prop} {v : Value} {xs : List Int} (h : OwnB w S v xs) (hl : xs.length ≤ 140737488355328) : ∃ A c, v = .slice A xs.length c ∧ xs.length ≤ c ∧ RdS w S A xs := by
  obtain ⟨hb, h⟩ := h
  rcases h with ⟨e, rfl⟩ | ⟨g, sp, e, hg, h1, h2, h3⟩
  · exact ⟨none, 0, e, by simp, hb, hl, fun hp => by simp at hp⟩
  · refine ⟨_, _, e, by omega, hb, hl, fun hp => ⟨_, rfl, hg, fun j hj => ?_⟩⟩
    rw [add_plain, h3.cell j, nums_row xs sp j hj]
theorem OwnB.shape {w : World} {S : Nat → Prop} {v : Value} {xs : List Int} (h : OwnB w S v xs) : ∃ A c, v = .slice A xs.length c := by
  obtain ⟨hb, h⟩ := h
  rcases h with ⟨e, rfl⟩ | ⟨g, sp, e, hg, h1, h2, h3⟩
  · exact ⟨none, 0, e⟩
  · exact ⟨_, _, e⟩

theorem nums_one (xs : List Int) : ∀ u ∈ nums .u8 xs, u.oneCell' = true := by
  intro u hu
  simp only [nums, List.mem_map] at hu
  obtain ⟨q, _, rfl⟩ := hu
  rfl
theorem zeroCells_nums (n : Nat) : Builtin.zeroCells (Value.int .u8 0).cells n = (nums .u8 (List.replicate n 0)).toArray := by
  apply Array.ext
  · simp [size_zeroCells, nums, Value.cells]
  · intro i h1 h2
    simp [Builtin.zeroCells, nums, Value.cells, Nat.mod_one]

/-- append(v, ys...), v a row of bytes of one's own, ys bytes that are read. -/
theorem run_append_bytes (W : World) (S : Nat → Prop) (v : Value) (xs ys : List Int) (hown : OwnB W S v xs) (B : Nat) (A : Option Addr) (c : Nat) (ty : TypeId) (hr : RdB W B A ys)
    (hbytes : xs.length + ys.length ≤ 140737488355328) (hS : S W.heap.size) :
    ∃ v' w', (Builtin.append_ #[22, 22] ty #[v, .slice A ys.length c]).run Try.prog W = .ok v' w' ∧ OwnB w' S v' (xs ++ ys) ∧ W.grownBy w' v.ownBlock ∧ (v'.ownBlock = v.ownBlock ∨ v'.ownBlock = some W.heap.size) := by
  obtain ⟨i, hi, hzz⟩ := Option.map_eq_some_iff.1 info5b
  simp only [Prod.mk.injEq] at hzz
  obtain ⟨hz, hsz, hby⟩ := hzz
  have ht := Try.underlying22
  obtain ⟨hbx, hown⟩ := hown
  have hbxy : IsBytes (xs ++ ys) := fun x hx => by
    rw [List.mem_append] at hx
    rcases hx with hx | hx
    · exact hbx x hx
    · exact hr.1 x hx
  have hnum : ∀ l : List Int, (nums .u8 l).length = l.length * i.size := fun l => by rw [hsz, nums_length, Nat.mul_one]
  rcases Nat.eq_zero_or_pos ys.length with h0 | h0
  · -- nothing comes
    obtain rfl : ys = [] := List.eq_nil_of_length_eq_zero h0
    refine ⟨v, W, ?_, ⟨hbxy, by simpa using hown⟩, World.grownBy.refl W _, .inl rfl⟩
    rcases hown with ⟨rfl, rfl⟩ | ⟨g, sp, rfl, hg, h1, h2, h3⟩
    · rcases A with _ | ad
      · simp [Builtin.append_, run_underlying ht, sizeOf, typeInfo, hi, Builtin.lenOf, Builtin.firstCells]
      · simp [Builtin.append_, run_underlying ht, sizeOf, typeInfo, hi, Builtin.lenOf, Builtin.firstCells, loadCells, loadCellsFrom]
    · rcases A with _ | ad
      · simp [Builtin.append_, run_underlying ht, sizeOf, typeInfo, hi, Builtin.lenOf, Builtin.firstCells, storeCells]
      · simp [Builtin.append_, run_underlying ht, sizeOf, typeInfo, hi, Builtin.lenOf, Builtin.firstCells, loadCells, loadCellsFrom, storeCells]
  · obtain ⟨ad, rfl, _, hcell⟩ := hr.2.2 h0
    have hnews : ∀ j u, (nums .u8 ys)[j]? = some u → W.cell? (ad.add j) = some u := by
      intro j u hu
      have hj : j < ys.length := by
        rcases Nat.lt_or_ge j ys.length with h | h
        · exact h
        · simp [nums, List.getElem?_eq_none h] at hu
      simp [nums, List.getElem?_eq_getElem hj] at hu
      subst hu
      rw [hcell j hj]
      simp [List.getD_eq_getElem?_getD, List.getElem?_eq_getElem hj]
    have grown : ∀ (old : Nat), OwnB (W.drew.alloc (.cells ((nums .u8 xs).toArray ++ (nums .u8 ys).toArray ++ Builtin.zeroCells (Value.int .u8 0).cells (grownCap W (xs.length + ys.length) old 5 - (xs.length + ys.length))) 5)) S
        (.slice (some ⟨W.heap.size, 0, none⟩) (xs.length + ys.length) (grownCap W (xs.length + ys.length) old 5)) (xs ++ ys) := by
      intro old
      have hge := grownCap_ge W (xs.length + ys.length) old 5
      have hcm : grownCap W (xs.length + ys.length) old 5 ≤ maxLen := grownCap_le_maxLen W (xs.length + ys.length) old 5 (by simp only [maxLen]; omega)
      refine ⟨hbxy, .inr ⟨W.heap.size, List.replicate (grownCap W (xs.length + ys.length) old 5 - (xs.length + ys.length)) 0, ?_, hS, ?_, ?_, ?_⟩⟩
      · rw [List.length_append, List.length_replicate, show xs.length + ys.length + (grownCap W (xs.length + ys.length) old 5 - (xs.length + ys.length)) = grownCap W (xs.length + ys.length) old 5 from by omega]
      · exact fun x hx => by
          have := (List.mem_replicate.1 hx).2
          omega
      · rw [List.length_append, List.length_replicate]; omega
      · rw [zeroCells_nums]
        have hb := Blk.new W.drew 5 ((nums .u8 xs).toArray ++ (nums .u8 ys).toArray ++ (nums .u8 (List.replicate (grownCap W (xs.length + ys.length) old 5 - (xs.length + ys.length)) 0)).toArray)
        have e : (nums .u8 xs).toArray ++ (nums .u8 ys).toArray ++ (nums .u8 (List.replicate (grownCap W (xs.length + ys.length) old 5 - (xs.length + ys.length)) 0)).toArray = (nums .u8 (xs ++ ys ++ List.replicate (grownCap W (xs.length + ys.length) old 5 - (xs.length + ys.length)) 0)).toArray := by
          simp [nums]
        rw [e] at hb ⊢
        exact hb
    have gby : ∀ (o : Obj) (row : Option Nat), W.grownBy (W.drew.alloc o) row := fun o row => ⟨rfl, rfl, rfl, by simp, fun k hk _ => Below.heap_alloc W.drew o k hk⟩
    rcases hown with ⟨rfl, rfl⟩ | ⟨g, sp, rfl, hg, h1, h2, h3⟩
    · have hrun := run_append_nil (P := Try.prog) W 22 ty 5 i _ ht hi hz ad ys.length c (nums .u8 ys) (hnum ys) hnews h0 (by omega) (by rw [hby]; omega)
      have hg0 := grown 0
      simp only [List.length_nil, Nat.zero_add, List.nil_append, nums, List.map_nil, Array.empty_append] at hg0 hrun ⊢
      exact ⟨_, _, hrun, hg0, gby _ _, .inr rfl⟩
    · by_cases hroom : xs.length + ys.length ≤ xs.length + sp.length
      · have hrun := run_append_room (P := Try.prog) W 22 ty 5 i ht hi g xs.length (xs.length + sp.length) _ h3 ad ys.length c (nums .u8 ys) (hnum ys) hnews (nums_one ys) hroom (by rw [hsz, nums_length]; simp [nums]; omega)
        refine ⟨_, _, hrun, ⟨hbxy, .inr ⟨g, sp.drop ys.length, ?_, hg, ?_, ?_, ?_⟩⟩, ⟨rfl, rfl, rfl, by simp, fun k _ hk => setRow_other W g k _ (fun e => hk (by simp [Value.ownBlock, e]))⟩, .inl rfl⟩
        · rw [List.length_append, List.length_drop, show xs.length + ys.length + (sp.length - ys.length) = xs.length + sp.length from by omega]
        · exact h1.drop _
        · rw [List.length_append, List.length_drop]; omega
        · have hrow := setRow_heap W g _ (nums .u8 (xs ++ ys ++ sp.drop ys.length)).toArray 5 (0, 0) h3
          have e : (List.take (xs.length * i.size) (nums .u8 (xs ++ sp)).toArray.toList ++ nums .u8 ys ++ List.drop (xs.length * i.size + (nums .u8 ys).length) (nums .u8 (xs ++ sp)).toArray.toList) = nums .u8 (xs ++ ys ++ sp.drop ys.length) := by
            rw [hsz, Nat.mul_one, nums_length]
            simp [nums, List.take_append, List.drop_append]
          rw [e]
          exact hrow
      · have holds : ∀ j u, (nums .u8 xs)[j]? = some u → W.cell? ((⟨g, 0, none⟩ : Addr).add j) = some u := by
          intro j u hu
          have hj : j < xs.length := by
            rcases Nat.lt_or_ge j xs.length with h | h
            · exact h
            · simp [nums, List.getElem?_eq_none h] at hu
          rw [add_plain, h3.cell j, nums_row xs sp j hj, ← hu]
          simp [nums, List.getD_eq_getElem?_getD, List.getElem?_eq_getElem hj]
        have hrun := run_append_grow (P := Try.prog) W 22 ty 5 i _ ht hi hz ⟨g, 0, none⟩ xs.length (xs.length + sp.length) (nums .u8 xs) (hnum xs) holds ad ys.length c (nums .u8 ys) (hnum ys) hnews (by omega) (by omega) (growslice_fits (by omega) (by rw [hby]; omega))
        exact ⟨_, _, hrun, grown _, gby _ _, .inr rfl⟩

section
variable {ops : Array Oper} {rest : List Oper} {o : Oper} {a : Act} {Q : Exit → Act → World → Prop}
theorem wp_append_bytes {K : Act → World → Prop} (W : World) (s x : Operand) (ho : o.op = .call { callee := .builtin .append, args := #[s, x], argTypes := #[22, 22] })
    (S : Nat → Prop) (v : Value) (xs ys : List Int) (hs : a.eval s = v) (hown : OwnB W S v xs) (B : Nat) (A : Option Addr) (c : Nat) (hx : a.eval x = .slice A ys.length c) (hr : RdB W B A ys)
    (hbytes : xs.length + ys.length ≤ 140737488355328) (hS : S W.heap.size)
    (h : ∀ v' w', OwnB w' S v' (xs ++ ys) → W.grownBy w' v.ownBlock → (v'.ownBlock = v.ownBlock ∨ v'.ownBlock = some W.heap.size) → K (a.put o.dst v') w') : o.wp Try.prog a W K Q := by
  obtain ⟨v', w', hrun, h2, h3, h4⟩ := run_append_bytes W S v xs ys hown B A c o.type hr hbytes hS
  unfold Oper.wp execOp
  simp only [ho, resolve, invoke, builtin, Sem.run_bind, Sem.run_pure, Result.andThen_ok, List.map_toArray, List.map_cons, List.map_nil, hs, hx, hrun]
  exact h v' w' h2 h3 h4
theorem wpList_append_bytes (W : World) (hgd : o.guard = none) (s x : Operand) (ho : o.op = .call { callee := .builtin .append, args := #[s, x], argTypes := #[22, 22] })
    (S : Nat → Prop) (v : Value) (xs ys : List Int) (hs : a.eval s = v) (hown : OwnB W S v xs) (B : Nat) (A : Option Addr) (c : Nat) (hx : a.eval x = .slice A ys.length c) (hr : RdB W B A ys)
    (hbytes : xs.length + ys.length ≤ 140737488355328) (hS : S W.heap.size)
    (h : ∀ v' w', OwnB w' S v' (xs ++ ys) → W.grownBy w' v.ownBlock → (v'.ownBlock = v.ownBlock ∨ v'.ownBlock = some W.heap.size) → wpList Try.prog ops Q rest (a.put o.dst v') w') : wpList Try.prog ops Q (o :: rest) a W :=
  wpList_plain hgd fun _ hK => wp_append_bytes W s x ho S v xs ys hs hown B A c hx hr hbytes hS fun v' w' h2 h3 h4 => hK _ _ (h v' w' h2 h3 h4)
/-- The same under a guard that lets it run. -/
theorem wpList_append_bytes_g (W : World) (hw : Region.wanted o (yielded ops a.tmps) = true) (s x : Operand) (ho : o.op = .call { callee := .builtin .append, args := #[s, x], argTypes := #[22, 22] })
    (S : Nat → Prop) (v : Value) (xs ys : List Int) (hs : a.eval s = v) (hown : OwnB W S v xs) (B : Nat) (A : Option Addr) (c : Nat) (hx : a.eval x = .slice A ys.length c) (hr : RdB W B A ys)
    (hbytes : xs.length + ys.length ≤ 140737488355328) (hS : S W.heap.size)
    (h : ∀ v' w', OwnB w' S v' (xs ++ ys) → W.grownBy w' v.ownBlock → (v'.ownBlock = v.ownBlock ∨ v'.ownBlock = some W.heap.size) → wpList Try.prog ops Q rest (a.put o.dst v') w') : wpList Try.prog ops Q (o :: rest) a W :=
  wpList_step fun K hK => by
    rw [if_pos hw]
    exact wp_append_bytes W s x ho S v xs ys hs hown B A c hx hr hbytes hS fun v' w' h2 h3 h4 => hK _ _ (h v' w' h2 h3 h4)
/-- What a row of bytes grew to lies from the base on. -/
theorem OwnB.base {w : World} {S : Nat → Prop} {v : Value} {xs : List Int} (h : OwnB w S v xs) : ∀ k, v.ownBlock = some k → S k := by
  intro k hk
  obtain ⟨_, h⟩ := h
  rcases h with ⟨rfl, _⟩ | ⟨g, sp, rfl, hg, _⟩
  · simp [Value.ownBlock] at hk
  · simp [Value.ownBlock] at hk
    rwa [← hk]
theorem step_append_bytes {K : Act → World → Prop} {E : Prop} (W : World) (hgd : o.guard = none) (s x : Operand) (ho : o.op = .call { callee := .builtin .append, args := #[s, x], argTypes := #[22, 22] })
    (S : Nat → Prop) (v : Value) (xs ys : List Int) (hs : a.eval s = v) (hown : OwnB W S v xs) (B : Nat) (A : Option Addr) (c : Nat) (hx : a.eval x = .slice A ys.length c) (hr : RdB W B A ys)
    (hbytes : xs.length + ys.length ≤ 140737488355328) (hS : S W.heap.size)
    (h : ∀ v' w', OwnB w' S v' (xs ++ ys) → W.grownBy w' v.ownBlock → (v'.ownBlock = v.ownBlock ∨ v'.ownBlock = some W.heap.size) → K (a.put o.dst v') w') : if Region.wanted o (yielded ops a.tmps) = true then Oper.wp Try.prog o a W K Q else E := by
  have hw : Region.wanted o (yielded ops a.tmps) = true := by simp [Region.wanted, hgd]
  rw [if_pos hw]
  exact wp_append_bytes W s x ho S v xs ys hs hown B A c hx hr hbytes hS h
end
end Go.Proofs.Ytneieogpdjlnbaa
