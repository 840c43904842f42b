/- The walk of package chunk's Push. Conditions: those that each statement names. -/
import Derived.Test.YtneieogpdjlnbaaCttA
set_option linter.unusedVariables false
set_option linter.unusedSimpArgs false
namespace Go.Proofs.Ytneieogpdjlnbaa
open Go Go.RowKit Go.Shelf Go.Proofs.YtneieogpdjlnbaaW.PrintWords

attribute [local go_sem] Oper.semAt_some

/-- Nothing but the blocks T, and what is new, has turned. -/
structure Far (w w' : World) (T : Nat → Prop) : Prop where
  os : w'.os = w.os
  tape : w'.tape = w.tape
  output : w'.output = w.output
  size : w.heap.size ≤ w'.heap.size
  same : ∀ k, k < w.heap.size → ¬ T k → w'.heap[k]? = w.heap[k]?
theorem Far.grown {w w1 w2 : World} {T : Nat → Prop} {row : Option Nat} (h : Far w w1 T) (hg : w1.grownBy w2 row) (hr : ∀ k, row = some k → T k ∨ w.heap.size ≤ k) : Far w w2 T :=
  ⟨hg.os.trans h.os, hg.tape.trans h.tape, hg.output.trans h.output, Nat.le_trans h.size hg.size, fun k hk hT =>
    (hg.block k (Nat.lt_of_lt_of_le hk h.size) (fun e => by rcases hr k e.symm with h1 | h1; exact hT h1; omega)).trans (h.same k hk hT)⟩
theorem Far.of_below {w w' : World} {T : Nat → Prop} (h : Below w.heap.size w w') : Far w w' T := ⟨h.os, h.tape, h.output, h.size, fun k hk _ => h.block k hk⟩
theorem Far.below {w w' : World} {T : Nat → Prop} {B : Nat} (h : Far w w' T) (hB : B ≤ w.heap.size) (hT : ∀ k, T k → B ≤ k) : Below B w w' :=
  ⟨h.os, h.tape, h.output, h.size, fun k hk => h.same k (Nat.lt_of_lt_of_le hk hB) (fun ht => by have := hT k ht; omega)⟩

/-- The cutter's cells behind its edge. -/
def Tl (W : World) (g : Nat) (lv : Value) : Prop := W.cell? ⟨g, 20, none⟩ = some lv ∧ W.frozen? ⟨g, 20, none⟩ = false ∧ W.cell? ⟨g, 21, none⟩ = some (.bool true) ∧ W.cell? ⟨g, 22, none⟩ = some (.bool false) ∧ W.cell? ⟨g, 23, none⟩ = none
theorem Tl.same {W W' : World} {g : Nat} {lv : Value} (h : Tl W g lv) (he : W'.heap[g]? = W.heap[g]?) : Tl W' g lv := by
  obtain ⟨h1, h2, h3, h4, h5⟩ := h
  exact ⟨(World.cell?_of_block (a := ⟨g, 20, none⟩) he).trans h1, (World.frozen?_of_block (a := ⟨g, 20, none⟩) he).trans h2, (World.cell?_of_block (a := ⟨g, 21, none⟩) he).trans h3, (World.cell?_of_block (a := ⟨g, 22, none⟩) he).trans h4, (World.cell?_of_block (a := ⟨g, 23, none⟩) he).trans h5⟩
theorem Tl.turn {W W' : World} {g : Nat} {lv : Value} {row : Option Nat} (h : Tl W g lv) (hg : W.grownBy W' row) (hn : NoCells W row) : Tl W' g lv := by
  obtain ⟨o, ho, hc⟩ := cells_of_cell h.1
  exact h.same (grownBy_keeps_cells hg hn ho hc)
theorem Tl.st {W W' : World} {g : Nat} {lv : Value} (h : Tl W g lv) (hs : StE g W W') : Tl W' g lv := by
  obtain ⟨h1, h2, h3, h4, h5⟩ := h
  exact ⟨(hs.2 20 (by omega)).1.trans h1, (hs.2 20 (by omega)).2.trans h2, (hs.2 21 (by omega)).1.trans h3, (hs.2 22 (by omega)).1.trans h4, (hs.2 23 (by omega)).1.trans h5⟩
theorem CutAt.tl {w : World} {g : Nat} {h : List Int} {lv : Value} (hc : CutAt w g h lv false) : Tl w g lv := ⟨hc.c20, hc.frozen 20, hc.c21, hc.c22, hc.c23⟩
theorem Tl.cut {w : World} {g : Nat} {h : List Int} {lv : Value} (ht : Tl w g lv) (he : EdgeX w g h) : CutAt w g h lv false := by
  obtain ⟨t, rest, hr⟩ := he
  obtain ⟨h1, _, h3, h4, h5⟩ := ht
  have e1 := (Rol.nth hr 1).symm.trans h1
  have e2 := (Rol.nth hr 2).symm.trans h3
  have e3 := (Rol.nth hr 3).symm.trans h4
  have e4 := (Rol.nth hr 4).symm.trans h5
  match rest, e1, e2, e3, e4 with
  | [a, b, c], e1, e2, e3, e4 =>
    simp at e1 e2 e3
    subst e1 e2 e3
    exact ⟨t, hr⟩
  | [], e1, _, _, _ => simp at e1
  | [a], _, e2, _, _ => simp at e2
  | [a, b], _, _, e3, _ => simp at e3
  | a :: b :: c :: d :: r, _, _, _, e4 => simp at e4
theorem Tl.set {W : World} {g : Nat} {lv : Value} (h : Tl W g lv) (u : Value) : Tl (W.setCell ⟨g, 20, none⟩ u) g u := by
  obtain ⟨h1, h2, h3, h4, h5⟩ := h
  refine ⟨World.cell?_setCell_same' _ _ _ (by rw [h1]; rfl), by rw [World.frozen?_setCell]; exact h2, ?_, ?_, ?_⟩
  · exact (World.cell?_setCell_other _ _ _ _ (by simp)).trans h3
  · exact (World.cell?_setCell_other _ _ _ _ (by simp)).trans h4
  · exact (World.cell?_setCell_other _ _ _ _ (by simp)).trans h5
theorem OwnL.turn0 {w w' : World} {S : Nat → Prop} {v : Value} (h : OwnL w S v []) (row : Option Nat) (hg : w.grownBy w' row) (hne : ∀ k, row = some k → ∀ cs, ¬ Blk w k 22 cs) : OwnL w' S v [] := by
  rcases h with h | ⟨g, vs, sp, e, hg1, h1, h2, h3⟩
  · exact .inl h
  · exact .inr ⟨g, vs, sp, e, hg1, h1, h2.grown hg (fun he => hne g he.symm _ h2), h3.1, fun j hj => by simp at hj⟩
theorem OwnB.blk {w : World} {S : Nat → Prop} {v : Value} {xs : List Int} (h : OwnB w S v xs) : ∀ k, v.ownBlock = some k → ∃ cs, Blk w k 5 cs := by
  intro k hk
  obtain ⟨_, h⟩ := h
  rcases h with ⟨rfl, _⟩ | ⟨g, sp, rfl, hg, h1, h2, h3⟩
  · simp [Value.ownBlock] at hk
  · simp [Value.ownBlock] at hk
    subst hk
    exact ⟨_, h3⟩
theorem cells_keep {W W' : World} {row : Option Nat} {t : TypeId} (hg : W.grownBy W' row) (h : ∀ k, row = some k → ∃ cs, Blk W k t cs) : KeepsOthers W W' :=
  KeepsOthers.of_grownBy hg (fun j o e ho' => by
    obtain ⟨cs', hb⟩ := h j e
    unfold Blk at hb
    rw [hb] at ho'
    injection ho' with ho'
    rw [← ho']
    rfl)
theorem edge_set {W : World} {g : Nat} {h : List Int} (he : EdgeX W g h) (j : Nat) (u : Value) : EdgeX (W.setCell ⟨g, 20 + j, none⟩ u) g h := by
  obtain ⟨t, rest, hr⟩ := he
  have := Rol.set_ hr (j + 1) u
  rw [show 19 + (j + 1) = 20 + j from by omega, List.set_cons_succ] at this
  exact ⟨t, _, this⟩

/-- What Push's loop keeps. -/
def PushI (w : World) (g D cap : Nat) (A : Option Addr) (bs h0 : List Int) (SL : Nat → Prop) (s : Nat × List (List Int)) (W : World) : Prop :=
  Boxed W w.heap.size 34 (.pointer (some ⟨g, 0, none⟩)) ∧ Boxed W (w.heap.size + 1) 22 (.slice A bs.length cap) ∧ (∃ v, Boxed W (w.heap.size + 2) 39 v ∧ OwnL W (fun k => SL k ∨ D ≤ k) v s.2 ∧ (s.2 = [] → v = .slice none 0 0)) ∧ Boxed W (w.heap.size + 3) 3 (.int .i64 s.1) ∧
    (∃ lv, Tl W g lv ∧ OwnB W (fun k => SL k ∨ D ≤ k) lv (if s.1 = 0 then h0 else []) ∧ (0 < s.1 → lv = .slice none 0 0)) ∧ Far w W (fun k => k = g ∨ SL k) ∧ D ≤ W.heap.size ∧ s.2.length ≤ s.1
theorem PushI.turn {w : World} {g D cap : Nat} {A : Option Addr} {bs h0 : List Int} {SL : Nat → Prop} (hD : w.heap.size ≤ D) : OwnFrom D (PushI w g D cap A bs h0 SL) := by
  rintro s W W' row ⟨h1, h2, ⟨v, h3, h4, hv0⟩, h5, ⟨lv, h6, h7, h8⟩, h9, h10, h11⟩ hg hr
  have hn : NoCells W row := fun r e => (hr r e).2
  exact ⟨h1.kept hg (fun e => hn.ne _ e.symm _ _ (blk_of_box h1)), h2.kept hg (fun e => hn.ne _ e.symm _ _ (blk_of_box h2)), ⟨v, h3.kept hg (fun e => hn.ne _ e.symm _ _ (blk_of_box h3)), h4.turn row hg (fun k e cs => hn.ne k e _ cs) (fun k e cs => hn.ne k e _ cs), hv0⟩,
    h5.kept hg (fun e => hn.ne _ e.symm _ _ (blk_of_box h5)), ⟨lv, h6.turn hg hn, h7.turn row hg (fun k e cs => hn.ne k e _ cs), h8⟩, h9.grown hg (fun k e => .inr (Nat.le_trans hD (hr k e).1)), Nat.le_trans h10 hg.size, h11⟩
theorem PushI.st {w : World} {g D cap : Nat} {A : Option Addr} {bs h0 : List Int} {SL : Nat → Prop} (hgn : g < w.heap.size) (hSL : ∀ k, SL k → k ≠ g) (hD : w.heap.size ≤ D) {s : Nat × List (List Int)} {W W' : World} (h : PushI w g D cap A bs h0 SL s W) (hs : StE g W W') : PushI w g D cap A bs h0 SL s W' := by
  obtain ⟨h1, h2, ⟨v, h3, h4, hv0⟩, h5, ⟨lv, h6, h7, h8⟩, h9, h10, h11⟩ := h
  have hk : ∀ k, (SL k ∨ D ≤ k) → k < W.heap.size → W'.heap[k]? = W.heap[k]? := fun k hk hlt => hs.1.block k hlt (by
    simp
    rcases hk with hk | hk
    · exact hSL k hk
    · omega)
  exact ⟨h1.kept hs.1 (by simp; omega), h2.kept hs.1 (by simp; omega), ⟨v, h3.kept hs.1 (by simp; omega), h4.keep hk, hv0⟩, h5.kept hs.1 (by simp; omega), ⟨lv, h6.st hs, h7.keep hk, h8⟩, h9.grown hs.1 (fun k e => by cases e; exact .inl (.inl rfl)), Nat.le_trans h10 hs.1.size, h11⟩

theorem FinTurn' {g Bb Be cap : Nat} {A : Option Addr} {h0 bs : List Int} (D : Nat) : OwnFrom D (fun (s : Nat × List (List Int)) W => ∃ h, Came h0 bs bs.length s.1 s.2 h ∧ ITh g Bb Be A cap bs W h) := FinTurn D
theorem pend_cut0 (h0 bs : List Int) (at_ k : Nat) : (if at_ = 0 then h0 else []) ++ (bs.take k).drop at_ = pendB h0 bs at_ k := by
  unfold pendB
  split
  · rename_i h; subst h; simp
  · simp

set_option maxHeartbeats 400000 in
theorem push_err (q : Option Addr) (k : Int) (A : Option Addr) (n c : Nat) (w : World) (hk : k = 1 ∨ k = 9) (ho : ∀ W, Below w.heap.size w W → Calls Try.prog 53 #[.pointer q] W fun e w' => e = .returned (.int .i64 k) ∧ W = w') :
    Calls Try.prog 32 #[.pointer q, .slice A n c] w fun e w' => e = .returned (.tuple #[.slice none 0 0, .int .i64 k]) ∧ Below w.heap.size w w' := by
  have HB : Below w.heap.size w ((w.alloc (.cells #[.pointer q] 34)).alloc (.cells #[.slice A n c] 22)) := ((Below.refl _ _).alloc (Nat.le_refl _) _).alloc (by simp) _
  have HO := Lib.hid (ho _ HB)
  have HBB := Lib.hid HB
  clear ho HB
  rcases hk with rfl | rfl
  · go_enter Try.func32, Try.ntmps32
    go_wp2_with (go_at_call 53; refine HO.out.mono ?_; rintro e w1 ⟨rfl, rfl⟩)
    refine bodyPost_ret (results_list (rs := [.tmp 4, .tmp 5]) rfl (by simp) (.tmp (.tmp .nil))) rfl ⟨rfl, HBB.out⟩
  · go_enter Try.func32, Try.ntmps32
    go_wp2_with (go_at_call 53; refine HO.out.mono ?_; rintro e w1 ⟨rfl, rfl⟩)
    refine bodyPost_ret (results_list (rs := [.tmp 4, .tmp 5]) rfl (by simp) (.tmp (.tmp .nil))) rfl ⟨rfl, HBB.out⟩

set_option maxRecDepth 100000 in
set_option maxHeartbeats 3200000 in
theorem cpush_any (g cap : Nat) (SL : Nat → Prop) (A : Option Addr) (h0 bs : List Int) (lv0 : Value) (w : World) (hc : CutAt w g h0 lv0 false) (ho : OwnB w SL lv0 h0) (hSL : ∀ k, SL k → k ≠ g ∧ k < w.heap.size) (hr : RdS w (fun k => k ≠ g ∧ ¬ SL k) A bs)
    (hl : h0.length + bs.length ≤ 900000) (hcap : bs.length ≤ cap) :
    Calls Try.prog 32 #[.pointer (some ⟨g, 0, none⟩), .slice A bs.length cap] w fun e w' => ∃ v lv S1 S2, e = .returned (.tuple #[v, .int .i64 0]) ∧ CutAt w' g (cutRun h0 bs).2 lv false ∧ OwnL w' S1 v (cutRun h0 bs).1 ∧ OwnB w' S2 lv (cutRun h0 bs).2 ∧
      (∀ k, S1 k → S2 k → False) ∧ (∀ k, S1 k ∨ S2 k → SL k ∨ w.heap.size ≤ k) ∧ Far w w' (fun k => k = g ∨ SL k) := by
  have HR := Lib.hid hr
  have hgn := hc.lt
  have HOO := Lib.hid ho
  have HC := Lib.hid hc
  have hB0 : Below w.heap.size w ((w.alloc (.cells #[.pointer (some ⟨g, 0, none⟩)] 34)).alloc (.cells #[.slice A bs.length cap] 22)) := ((Below.refl _ _).alloc (Nat.le_refl _) _).alloc (by simp) _
  have ho53 : Calls Try.prog 53 #[.pointer (some ⟨g, 0, none⟩)] ((w.alloc (.cells #[.pointer (some ⟨g, 0, none⟩)] 34)).alloc (.cells #[.slice A bs.length cap] 22)) fun e w' => e = .returned (.int .i64 0) ∧ ((w.alloc (.cells #[.pointer (some ⟨g, 0, none⟩)] 34)).alloc (.cells #[.slice A bs.length cap] 22)) = w' := by
    have := out_any g h0 lv0 false _ (hc.below hB0 hgn)
    simpa using this
  have HO := Lib.hid ho53
  clear hr ho hc hB0 ho53
  refine callsIn_wide.1 (callsIn_of_wp_marks (n := 5) Try.func32 rfl trivial ?_ rfl)
  simp only [Try.ntmps32, List.size_toArray, List.length_cons, List.length_nil, Nat.reduceAdd, Nat.reduceSub, Array.replicate_succ, Array.replicate_zero, List.push_toArray, List.append_toArray, List.nil_append, List.cons_append]
  refine wpIn_wide.2 ?_
  go_wp2_with (go_at_call 53; refine HO.out.mono ?_; rintro e w1 ⟨rfl, rfl⟩)
  obtain ⟨w2, hw2⟩ : ∃ w2, (((w.alloc (.cells #[.pointer (some ⟨g, 0, none⟩)] 34)).alloc (.cells #[.slice A bs.length cap] 22)).alloc (.cells #[.slice none 0 0] 39)).alloc (.cells #[.int .i64 0] 3) = w2 := ⟨_, rfl⟩
  rw [hw2]
  simp only [Nat.add_assoc, Nat.reduceAdd]
  have hz2 : w2.heap.size = w.heap.size + 4 := by rw [← hw2]; simp
  have hB2 : Below w.heap.size w w2 := by
    rw [← hw2]
    exact ((((Below.refl _ _).alloc (Nat.le_refl _) _).alloc (by simp) _).alloc (by simp; omega) _).alloc (by simp; omega) _
  have b0 : Boxed w2 w.heap.size 34 (.pointer (some ⟨g, 0, none⟩)) := by rw [← hw2]; exact (((Boxed.new w 34 _).alloc _).alloc _).alloc _
  have b1 : Boxed w2 (w.heap.size + 1) 22 (.slice A bs.length cap) := by
    have := ((Boxed.new (w.alloc (.cells #[.pointer (some ⟨g, 0, none⟩)] 34)) 22 (.slice A bs.length cap)).alloc (.cells #[.slice none 0 0] 39)).alloc (.cells #[.int .i64 0] 3)
    rw [hw2, World.size_alloc] at this
    exact this
  have b2 : Boxed w2 (w.heap.size + 2) 39 (.slice none 0 0) := by
    have := (Boxed.new ((w.alloc (.cells #[.pointer (some ⟨g, 0, none⟩)] 34)).alloc (.cells #[.slice A bs.length cap] 22)) 39 (.slice none 0 0)).alloc (.cells #[.int .i64 0] 3)
    rw [hw2, World.size_alloc, World.size_alloc] at this
    exact this
  have b3 : Boxed w2 (w.heap.size + 3) 3 (.int .i64 0) := by
    have := Boxed.new (((w.alloc (.cells #[.pointer (some ⟨g, 0, none⟩)] 34)).alloc (.cells #[.slice A bs.length cap] 22)).alloc (.cells #[.slice none 0 0] 39)) 3 (.int .i64 0)
    rw [hw2, World.size_alloc, World.size_alloc, World.size_alloc] at this
    exact this
  have HS0 : Hid (w2.drew.cell? ⟨w.heap.size, 0, none⟩ = some (.pointer (some ⟨g, 0, none⟩)) ∧ w2.drew.cell? ⟨w.heap.size + 1, 0, none⟩ = some (.slice A bs.length cap)) := ⟨b0.cell, b1.cell⟩
  have H0 := Lib.hid b0
  have H1 := Lib.hid b1
  have H2 := Lib.hid b2
  have H3 := Lib.hid b3
  have HB2 := Lib.hid hB2
  have HZ2 := Lib.hid hz2
  clear b0 b1 b2 b3 hB2 hz2 hw2 HO
  go_region_held3 (fun W => W.cell? ⟨w.heap.size, 0, none⟩ = some (.pointer (some ⟨g, 0, none⟩)) ∧ W.cell? ⟨w.heap.size + 1, 0, none⟩ = some (.slice A bs.length cap)) (first | assumption | exact HS0.out)
    (first
      | (go_at_call 54; refine (cuts_any _ _ _ _ _).mono ?_; rintro e w3 ⟨rfl, hw3⟩; have hS3 : w3.cell? ⟨w.heap.size, 0, none⟩ = some (.pointer (some ⟨g, 0, none⟩)) ∧ w3.cell? ⟨w.heap.size + 1, 0, none⟩ = some (.slice A bs.length cap) := (by rw [hw3]; exact ⟨(((H0.out : Boxed w2.drew _ _ _).alloc _).alloc _).cell, (((H1.out : Boxed w2.drew _ _ _).alloc _).alloc _).cell⟩); have HW3 := Lib.hid hw3; clear hw3))
  go_wp2_with fail
  clear hS3 HS0
  have hw3 := HW3.out
  have hz2 := HZ2.out
  have hz3 : w3.heap.size = w.heap.size + 6 := by rw [hw3]; simp; omega
  have cBe : Boxed w3 (w.heap.size + 4) 81 (.pointer (some ⟨g, 0, none⟩)) := by
    have := (Boxed.new w2.drew 81 (.pointer (some ⟨g, 0, none⟩))).alloc (.cells #[.slice A bs.length cap] 22)
    rw [hw3]
    rw [show w2.drew.heap.size = w.heap.size + 4 from hz2] at this
    exact this
  have cBb : Boxed w3 (w.heap.size + 5) 22 (.slice A bs.length cap) := by
    have := Boxed.new (w2.drew.alloc (.cells #[.pointer (some ⟨g, 0, none⟩)] 81)) 22 (.slice A bs.length cap)
    rw [hw3]
    rw [World.size_alloc, show w2.drew.heap.size = w.heap.size + 4 from hz2] at this
    exact this
  have b0 : Boxed w3 w.heap.size 34 (.pointer (some ⟨g, 0, none⟩)) := by rw [hw3]; exact ((H0.out : Boxed w2.drew _ _ _).alloc _).alloc _
  have b1 : Boxed w3 (w.heap.size + 1) 22 (.slice A bs.length cap) := by rw [hw3]; exact ((H1.out : Boxed w2.drew _ _ _).alloc _).alloc _
  have b2 : Boxed w3 (w.heap.size + 2) 39 (.slice none 0 0) := by rw [hw3]; exact ((H2.out : Boxed w2.drew _ _ _).alloc _).alloc _
  have b3 : Boxed w3 (w.heap.size + 3) 3 (.int .i64 0) := by rw [hw3]; exact ((H3.out : Boxed w2.drew _ _ _).alloc _).alloc _
  have hB3 : Below w.heap.size w w3 := by
    rw [hw3]
    exact ((below_drew HB2.out).alloc (show w.heap.size ≤ w2.drew.heap.size from HB2.out.size) _).alloc (by have := HB2.out.size; simp; omega) _
  have hc3 := HC.out.below hB3 hgn
  have hrd3 : RdS w3 (· ≠ g) A bs := (HR.out.keep (fun k hk hlt => hB3.block k hlt)).mono (fun k hk _ => hk.1)
  have ho3 : OwnB w3 (fun k => SL k ∨ w.heap.size + 6 ≤ k) lv0 h0 := (HOO.out.keep (fun k hk hlt => hB3.block k hlt)).mono (fun k hk _ => .inl hk)
  have hI0 : PushI w g (w.heap.size + 6) cap A bs h0 SL (0, []) w3 := ⟨b0, b1, ⟨_, b2, OwnL.nil _ _, fun _ => rfl⟩, b3, ⟨lv0, hc3.tl, by simpa using ho3, fun h => by simp at h⟩, Far.of_below hB3, by omega, by simp⟩
  have hit0 : ITh g (w.heap.size + 5) (w.heap.size + 4) A cap bs w3 h0 := ⟨hc3.edge, cBb.cell, cBe.cell, hrd3⟩
  clear cBe cBb b0 b1 b2 b3 hB3 hc3 hrd3 ho3 hw3 HW3 H0 H1 H2 H3 HB2 HC HOO
  simp only [hz2]
  clear hz2 HZ2
  simp only [Nat.add_assoc, Nat.reduceAdd]
  refine (wpIn_wide (n := 5)).1 ?_
  refine wpIn_rangeFunc_it (gf := 57) (lb := #[.pointer (some ⟨w.heap.size + 5, 0, none⟩), .pointer (some ⟨w.heap.size + 4, 0, none⟩)]) rfl (by omega) rfl trivial (enters_of Try.func57 (by kernel_rfl) rfl)
    (PushI w g (w.heap.size + 6) cap A bs h0 SL) (fun W => ITh g (w.heap.size + 5) (w.heap.size + 4) A cap bs W []) (fun W => ITh g (w.heap.size + 5) (w.heap.size + 4) A cap bs W h0) (StE g)
    (fun s x s' => ∃ k : Nat, x = .int .i64 ((k : Int) + 1) ∧ s' = (k + 1, s.2 ++ [pendB h0 bs s.1 (k + 1)]) ∧ s.1 ≤ k ∧ k < bs.length) (0, [])
    (fun s W => ∃ h, Came h0 bs bs.length s.1 s.2 h ∧ ITh g (w.heap.size + 5) (w.heap.size + 4) A cap bs W h)
    (by rw [hz3]; exact PushI.turn (by omega)) (ITh.turn _) (ITh.turn _) (FinTurn _)
    (fun s W W' h hs => h.st hgn (fun k hk => (hSL k hk).1) (by omega) hs) (fun W W' hs => ⟨g, by omega, hs.1⟩)
    (fun l J W hst hy hj hit => (cuts1_in (5 - 1) l g (w.heap.size + 5) (w.heap.size + 4) cap A h0 bs (by omega) (by omega) (by omega) J hst
      (fun k at_ cs h W hj hi hc h1 h2 => hy (at_, cs) (k + 1, cs ++ [pendB h0 bs at_ (k + 1)]) _ W hj hi ⟨k, rfl, rfl, h1, h2⟩) W hj hit).mono (by
        rintro e W' ⟨hv, at_, cs, h, hj', hc, hi⟩
        exact ⟨hv, (at_, cs), hj', h, hc, hi⟩))
    hI0 hit0
    (fun x => { tmps := #[.pointer (some ⟨g, 0, none⟩), .slice A bs.length cap, .pointer (some ⟨w.heap.size, 0, none⟩), .pointer (some ⟨w.heap.size + 1, 0, none⟩), .slice none 0 0, .int .i64 0, .int .i64 0, .pointer (some ⟨w.heap.size + 2, 0, none⟩), .pointer (some ⟨w.heap.size + 3, 0, none⟩), x,
      .pointer (some ⟨g, 0, none⟩), .int .i64 0, .int .i64 0, .bool false, undef, .pointer (some ⟨g, 0, none⟩), .pointer (some ⟨g, 0, none⟩), .pointer (some ⟨g, 0, none⟩), .slice A bs.length cap,
      .func (.func 57) #[] #[.pointer (some ⟨w.heap.size + 5, 0, none⟩), .pointer (some ⟨w.heap.size + 4, 0, none⟩)], x, undef, undef, undef, undef, undef, undef, undef, undef, undef, undef, undef, undef, undef, undef, undef, undef, undef, undef, undef, undef, undef, undef, undef, undef, undef, undef, undef, undef], defers := [] }) ?assign ?body ?done
  case assign =>
    intro l x W K hK
    gi_wp2
    exact hK
  case body =>
    rintro l ⟨at_, cs⟩ s' x W hI hIT ⟨k, rfl, rfl, h1, h2⟩
    dsimp only at h1 ⊢
    obtain ⟨b0, b1, ⟨v, b2, ho, hv0⟩, b3, ⟨lv, htl, hol, hnil⟩, hF, hD, hcl⟩ := hI
    dsimp only at b3 ho hcl hol hnil
    obtain ⟨xs, hxs⟩ : ∃ xs, (if at_ = 0 then h0 else []) = xs := ⟨_, rfl⟩
    obtain ⟨ys, hys⟩ : ∃ ys, (bs.take (k + 1)).drop at_ = ys := ⟨_, rfl⟩
    have hpe := pend_cut0 h0 bs at_ (k + 1)
    rw [hxs] at hol hpe
    rw [hys] at hpe
    obtain ⟨zs, hzs⟩ : ∃ zs, pendB h0 bs at_ (k + 1) = zs := ⟨_, rfl⟩
    rw [hzs] at hpe
    have HPE := Lib.hid hpe
    clear hpe
    obtain ⟨A', cap', hcut, hcl', hcr⟩ := cutM A cap bs ys (at_ : Int) ((k : Int) + 1) (by omega) (by omega) (by omega) hcap (by rw [← hys]; congr 1)
    rw [hzs]
    clear hzs
    have hrb : RdB W.drew W.heap.size A' ys := hcr W W.heap.size (hIT.2.2.2.rdB)
    have hyl : ys.length ≤ bs.length := by rw [← hys]; simp; omega
    have hxl : xs.length ≤ h0.length := by rw [← hxs]; split <;> simp
    obtain ⟨A0, c0, rfl⟩ := hol.shape
    clear hcr
    refine wpIn_block ?_
    refine wpIn_seq ?_
    refine region_round (by kernel_rfl) (by kernel_rfl) (by rintro ⟨_, _, h⟩; exact h) ?_
    refine wpAny_of_till (S := fun W' => Boxed W' w.heap.size 34 (.pointer (some ⟨g, 0, none⟩)) ∧ Boxed W' (w.heap.size + 1) 22 (.slice A bs.length cap) ∧ Boxed W' (w.heap.size + 2) 39 v ∧ Boxed W' (w.heap.size + 3) 3 (.int .i64 at_) ∧ W'.cell? ⟨g, 20, none⟩ = some (.slice A0 xs.length c0)) (c := 12) _ _ _ _ ?_
    have hS0 : Boxed W.drew w.heap.size 34 (.pointer (some ⟨g, 0, none⟩)) ∧ Boxed W.drew (w.heap.size + 1) 22 (.slice A bs.length cap) ∧ Boxed W.drew (w.heap.size + 2) 39 v ∧ Boxed W.drew (w.heap.size + 3) 3 (.int .i64 at_) ∧ W.drew.cell? ⟨g, 20, none⟩ = some (.slice A0 xs.length c0) := ⟨b0, b1, b2, b3, htl.1⟩
    refine wpTill_take 0 v (by simp only [List.getElem?_toArray, List.getElem?_cons_succ, List.getElem?_cons_zero]; rfl) (by kernel_rfl) (by kernel_rfl) (by kernel_rfl) (by kernel_rfl) (by kernel_rfl) (by kernel_rfl) (by rfl) (fun _ _ _ h => h) hS0 (fun w hSw => by
      obtain ⟨q0, q1, q2, q3, r4⟩ := hSw
      have r0 := q0.cell
      have r1 := q1.cell
      have r2 := q2.cell
      have r3 := q3.cell
      go_simp) ?_
    try simp only [Act.put, List.setIfInBounds_toArray, List.set_cons_zero, List.set_cons_succ]
    refine wpTill_take 1 (.pointer (some ⟨g, 0, none⟩)) (by simp only [List.getElem?_toArray, List.getElem?_cons_succ, List.getElem?_cons_zero]; rfl) (by kernel_rfl) (by kernel_rfl) (by kernel_rfl) (by kernel_rfl) (by kernel_rfl) (by kernel_rfl) (by rfl) (fun _ _ _ h => h) hS0 (fun w hSw => by
      obtain ⟨q0, q1, q2, q3, r4⟩ := hSw
      have r0 := q0.cell
      have r1 := q1.cell
      have r2 := q2.cell
      have r3 := q3.cell
      go_simp) ?_
    try simp only [Act.put, List.setIfInBounds_toArray, List.set_cons_zero, List.set_cons_succ]
    refine wpTill_take 2 (.pointer (some ⟨g, 0, none⟩)) (by simp only [List.getElem?_toArray, List.getElem?_cons_succ, List.getElem?_cons_zero]; rfl) (by kernel_rfl) (by kernel_rfl) (by kernel_rfl) (by kernel_rfl) (by kernel_rfl) (by kernel_rfl) (by rfl) (fun _ _ _ h => h) hS0 (fun w hSw => by
      obtain ⟨q0, q1, q2, q3, r4⟩ := hSw
      have r0 := q0.cell
      have r1 := q1.cell
      have r2 := q2.cell
      have r3 := q3.cell
      go_simp) ?_
    try simp only [Act.put, List.setIfInBounds_toArray, List.set_cons_zero, List.set_cons_succ]
    refine wpTill_take 3 (.pointer (some ⟨g, 20, none⟩)) (by simp only [List.getElem?_toArray, List.getElem?_cons_succ, List.getElem?_cons_zero]; rfl) (by kernel_rfl) (by kernel_rfl) (by kernel_rfl) (by kernel_rfl) (by kernel_rfl) (by kernel_rfl) (by rfl) (fun _ _ _ h => h) hS0 (fun w hSw => by
      obtain ⟨q0, q1, q2, q3, r4⟩ := hSw
      have r0 := q0.cell
      have r1 := q1.cell
      have r2 := q2.cell
      have r3 := q3.cell
      go_simp) ?_
    try simp only [Act.put, List.setIfInBounds_toArray, List.set_cons_zero, List.set_cons_succ]
    refine wpTill_take 4 (.slice A0 xs.length c0) (by simp only [List.getElem?_toArray, List.getElem?_cons_succ, List.getElem?_cons_zero]; rfl) (by kernel_rfl) (by kernel_rfl) (by kernel_rfl) (by kernel_rfl) (by kernel_rfl) (by kernel_rfl) (by rfl) (fun _ _ _ h => h) hS0 (fun w hSw => by
      obtain ⟨q0, q1, q2, q3, r4⟩ := hSw
      have r0 := q0.cell
      have r1 := q1.cell
      have r2 := q2.cell
      have r3 := q3.cell
      go_simp) ?_
    try simp only [Act.put, List.setIfInBounds_toArray, List.set_cons_zero, List.set_cons_succ]
    refine wpTill_take 5 (.slice A bs.length cap) (by simp only [List.getElem?_toArray, List.getElem?_cons_succ, List.getElem?_cons_zero]; rfl) (by kernel_rfl) (by kernel_rfl) (by kernel_rfl) (by kernel_rfl) (by kernel_rfl) (by kernel_rfl) (by rfl) (fun _ _ _ h => h) hS0 (fun w hSw => by
      obtain ⟨q0, q1, q2, q3, r4⟩ := hSw
      have r0 := q0.cell
      have r1 := q1.cell
      have r2 := q2.cell
      have r3 := q3.cell
      go_simp) ?_
    try simp only [Act.put, List.setIfInBounds_toArray, List.set_cons_zero, List.set_cons_succ]
    refine wpTill_take 6 (.int .i64 at_) (by simp only [List.getElem?_toArray, List.getElem?_cons_succ, List.getElem?_cons_zero]; rfl) (by kernel_rfl) (by kernel_rfl) (by kernel_rfl) (by kernel_rfl) (by kernel_rfl) (by kernel_rfl) (by rfl) (fun _ _ _ h => h) hS0 (fun w hSw => by
      obtain ⟨q0, q1, q2, q3, r4⟩ := hSw
      have r0 := q0.cell
      have r1 := q1.cell
      have r2 := q2.cell
      have r3 := q3.cell
      go_simp) ?_
    try simp only [Act.put, List.setIfInBounds_toArray, List.set_cons_zero, List.set_cons_succ]
    refine wpTill_take 7 (.int .i64 ((k : Int) + 1)) (by simp only [List.getElem?_toArray, List.getElem?_cons_succ, List.getElem?_cons_zero]; rfl) (by kernel_rfl) (by kernel_rfl) (by kernel_rfl) (by kernel_rfl) (by kernel_rfl) (by kernel_rfl) (by rfl) (fun _ _ _ h => h) hS0 (fun w hSw => by
      obtain ⟨q0, q1, q2, q3, r4⟩ := hSw
      have r0 := q0.cell
      have r1 := q1.cell
      have r2 := q2.cell
      have r3 := q3.cell
      go_simp) ?_
    try simp only [Act.put, List.setIfInBounds_toArray, List.set_cons_zero, List.set_cons_succ]
    refine wpTill_take 8 (.slice A' ys.length cap') (by simp only [List.getElem?_toArray, List.getElem?_cons_succ, List.getElem?_cons_zero]; rfl) (by kernel_rfl) (by kernel_rfl) (by kernel_rfl) (by kernel_rfl) (by kernel_rfl) (by kernel_rfl) (by rfl) (fun _ _ _ h => h) hS0 (fun w hSw => by
      obtain ⟨q0, q1, q2, q3, r4⟩ := hSw
      have r0 := q0.cell
      have r1 := q1.cell
      have r2 := q2.cell
      have r3 := q3.cell
      go_simp) ?_
    try simp only [Act.put, List.setIfInBounds_toArray, List.set_cons_zero, List.set_cons_succ]
    have hlb : ∀ k, (Value.slice A0 xs.length c0).ownBlock = some k → (SL k ∨ w.heap.size + 6 ≤ k) := fun k e => hol.base k e
    have hlb' : ∀ j, (j = g ∨ (w.heap.size ≤ j ∧ j < w.heap.size + 6)) → some j ≠ (Value.slice A0 xs.length c0).ownBlock := fun j hj e => by
      rcases hlb j e.symm with h | h
      · have := hSL j h; omega
      · omega
    refine wpTill_one 9 (by simp only [List.getElem?_toArray, List.getElem?_cons_succ, List.getElem?_cons_zero]; rfl) (by kernel_rfl) (by rfl) (fun K hK => ?_)
    refine wp_append_bytes W.drew _ _ rfl (fun k => SL k ∨ w.heap.size + 6 ≤ k) (.slice A0 xs.length c0) xs ys rfl hol W.heap.size A' cap' rfl hrb (by omega) (.inr hD) ?_
    intro v1 W1 ho1 hg1 hat1
    rw [HPE.out] at ho1
    have hg1 : W.grownBy W1 (Value.slice A0 xs.length c0).ownBlock := ⟨hg1.os, hg1.tape, hg1.output, hg1.size, hg1.block⟩
    have p0 := b0.kept hg1 (hlb' _ (by omega))
    have p1 := b1.kept hg1 (hlb' _ (by omega))
    have p2 := b2.kept hg1 (hlb' _ (by omega))
    have p3 := b3.kept hg1 (hlb' _ (by omega))
    have htl1 : Tl W1 g (.slice A0 xs.length c0) := htl.same (hg1.block g (by have := hF.size; omega) (hlb' g (by omega)))
    have hz1' : W.heap.size ≤ W1.heap.size := hg1.size
    have hF1 := hF.grown hg1 (fun k e => by rcases hlb k e with h | h; exact .inl (.inr h); exact .inr (by omega))
    have hk1 : KeepsOthers W W1 := cells_keep hg1 hol.blk
    have hoL1 : OwnL W1 (fun k => SL k ∨ w.heap.size + 6 ≤ k) v cs := by
      by_cases h0' : at_ = 0
      · have hcs : cs = [] := List.eq_nil_of_length_eq_zero (by omega)
        subst hcs
        exact ho.turn0 _ hg1 (fun k e cs' => by obtain ⟨_, hb⟩ := hol.blk k e; exact not_rows hb (by decide) cs')
      · have hn := hnil (by omega)
        rw [hn] at hg1
        exact ho.turn none hg1 (fun k e => by cases e) (fun k e => by cases e)
    have hgA : W1.grownBy (W1.alloc (.cells #[v1] 22)) none := World.grownBy_alloc W1 _ none
    have hoA : OwnL (W1.alloc (.cells #[v1] 22)) (fun k => SL k ∨ w.heap.size + 6 ≤ k) v cs := hoL1.turn none hgA (fun k e => by cases e) (fun k e => by cases e)
    have ho1A : OwnB (W1.alloc (.cells #[v1] 22)) (fun k => SL k ∨ w.heap.size + 6 ≤ k) v1 zs := ho1.turn none hgA (fun k e => by cases e)
    have htlA := htl1.same (hgA.block g (by have := hF1.size; omega) (by simp))
    have hFA := hF1.grown hgA (fun k e => by cases e)
    obtain ⟨A1, k1, e1⟩ := ho1.shape
    subst e1
    refine hK.out _ _ (fun _ => ⟨p0, p1, p2, p3, htl1.1⟩) ?_
    try simp only [Act.put, List.setIfInBounds_toArray, List.set_cons_zero, List.set_cons_succ]
    refine wpTill_one 10 (by simp only [List.getElem?_toArray, List.getElem?_cons_succ, List.getElem?_cons_zero]; rfl) (by kernel_rfl) (by rfl) (fun K hK => ?_)
    go_simp
    refine hK.out _ _ (fun _ => ⟨p0.alloc _, p1.alloc _, p2.alloc _, p3.alloc _, htlA.1⟩) ?_
    try simp only [Act.put, List.setIfInBounds_toArray, List.set_cons_zero, List.set_cons_succ]
    refine wpTill_one 11 (by simp only [List.getElem?_toArray, List.getElem?_cons_succ, List.getElem?_cons_zero]; rfl) (by kernel_rfl) (by rfl) (fun K hK => ?_)
    refine wp_append_rows (W1.alloc (.cells #[.slice A1 zs.length k1] 22)) _ _ rfl (fun k => SL k ∨ w.heap.size + 6 ≤ k) v cs [zs] [.slice A1 zs.length k1] rfl hoA (Rows.one ho1A) (some ⟨W1.heap.size, 0, none⟩) 1 1 rfl rfl (fun _ => ⟨_, rfl, new_cell W1 _ 22⟩) (by simp; omega) (.inr (by simp; omega)) ?_
    intro v2 W3 ho3 hg3 hat3
    have hvb : ∀ j, (j = g ∨ (w.heap.size ≤ j ∧ j < w.heap.size + 6)) → some j ≠ v.ownBlock := fun j hj e => by
      rcases (hoA.base j e.symm).1 with h | h
      · have := hSL j h; omega
      · omega
    have q0 := (p0.alloc (.cells #[.slice A1 zs.length k1] 22)).kept hg3 (hvb _ (by omega))
    have q1 := (p1.alloc (.cells #[.slice A1 zs.length k1] 22)).kept hg3 (hvb _ (by omega))
    have q2 := (p2.alloc (.cells #[.slice A1 zs.length k1] 22)).kept hg3 (hvb _ (by omega))
    have q3 := (p3.alloc (.cells #[.slice A1 zs.length k1] 22)).kept hg3 (hvb _ (by omega))
    have htl3 := htlA.same (hg3.block g (by have := hFA.size; omega) (hvb g (by omega)))
    have hF3 := hFA.grown hg3 (fun k e => by rcases (hoA.base k e).1 with h | h; exact .inl (.inr h); exact .inr (by omega))
    have hk3 : KeepsOthers (W1.alloc (.cells #[.slice A1 zs.length k1] 22)) W3 := cells_keep hg3 (fun k e => (hoA.base k e).2)
    obtain ⟨A2, k2, e2⟩ := ho3.shape
    rw [List.length_append, List.length_singleton] at e2
    subst e2
    refine hK.out _ _ (fun _ => ⟨q0, q1, q2, q3, htl3.1⟩) ?_
    try simp only [Act.put, List.setIfInBounds_toArray, List.set_cons_zero, List.set_cons_succ]
    have r2 := q2.cell
    have f2 := q2.frozen
    have g1 := grownBy_setCell' W3 (w.heap.size + 2) (.slice A2 (cs.length + 1) k2)
    refine wpTill_past 12 (by simp only [List.getElem?_toArray, List.getElem?_cons_succ, List.getElem?_cons_zero]; rfl) (by kernel_rfl) (by rfl) (by kernel_rfl) (fun K hK => ?_)
    go_simp
    refine hK.out _ _ ?_
    refine wpTill_done (by kernel_rfl) ?_ _
    have ho5 := ho3.keep (fun j hj hlt => g1.block j hlt (by
      simp
      rcases hj with h | h
      · have := hSL j h; omega
      · omega))
    have q2' := q2.set (.slice A2 (cs.length + 1) k2)
    have q0' := q0.kept g1 (by simp)
    have q1' := q1.kept g1 (by simp)
    have q3' := q3.kept g1 (by simp)
    have hz5 : W.heap.size ≤ W3.heap.size := Nat.le_trans hz1' (Nat.le_trans (by simp) hg3.size)
    have htl5 := htl3.same (g1.block g (by have := hF3.size; omega) (by simp; omega))
    have hF5 := hF3.grown g1 (fun k e => by cases e; exact .inr (by omega))
    have hk5 : KeepsOthers W (W3.setCell ⟨w.heap.size + 2, 0, none⟩ (.slice A2 (cs.length + 1) k2)) := ((hk1.trans (KeepsOthers.alloc W1 _)).trans hk3).trans (KeepsOthers.setCell _ _ _)
    have hx5 : EdgeX (W3.setCell ⟨w.heap.size + 2, 0, none⟩ (.slice A2 (cs.length + 1) k2)) g [] := (((hIT.1.grown hg1 (hlb' g (by omega))).grown hgA (by simp)).grown hg3 (hvb g (by omega))).grown g1 (by simp; omega)
    have hbb5 := g1.cell (hg3.cell (hgA.cell (hg1.cell hIT.2.1 (fun e => hlb' (w.heap.size + 5) (by omega) e)) (by simp)) (fun e => hvb (w.heap.size + 5) (by omega) e)) (by simp)
    have hbe5 := g1.cell (hg3.cell (hgA.cell (hg1.cell hIT.2.2.1 (fun e => hlb' (w.heap.size + 4) (by omega) e)) (by simp)) (fun e => hvb (w.heap.size + 4) (by omega) e)) (by simp)
    have hsz5 := g1.size
    clear hk1 hk3 htlA htl3 hFA hF3 htl1 hF1 hoL1 hgA hoA ho1A ho3 hg3 hat3 g1 q0 q1 q2 q3 r2 f2 p0 p1 p2 p3 ho1 hg1 hat1 hK hS0 hlb hlb' hvb
    obtain ⟨W5, hW5⟩ : ∃ W5, W3.setCell ⟨w.heap.size + 2, 0, none⟩ (.slice A2 (cs.length + 1) k2) = W5 := ⟨_, rfl⟩
    rw [hW5] at ho5 q2' q0' q1' q3' htl5 hF5 hk5 hx5 hbb5 hbe5 hsz5
    have c20 := htl5.1
    have f20 := htl5.2.1
    have c0' := q0'.cell
    have g2 := grownBy_setCell' W5 (w.heap.size + 3) (.int .i64 ((k : Int) + 1))
    have gg : W5.grownBy (W5.setCell ⟨g, 20, none⟩ (.slice none 0 0)) (some g) := only_setCell (World.grownBy.refl W5 _) (.inl rfl) _
    have htl6 := htl5.set (.slice none 0 0)
    have q3g := q3'.kept gg (by simp; omega)
    have c3g := q3g.cell
    have f3g := q3g.frozen
    have g3 := grownBy_setCell' (W5.setCell ⟨g, 20, none⟩ (.slice none 0 0)) (w.heap.size + 3) (.int .i64 ((k : Int) + 1))
    rw [hW5]
    have hFin : roundEnd (PushI w g (w.heap.size + 6) cap A bs h0 SL) (fun W => ITh g (w.heap.size + 5) (w.heap.size + 4) A cap bs W []) (k + 1, cs ++ [zs]) W .normal { tmps := #[], defers := [] } ((W5.setCell ⟨g, 20, none⟩ (.slice none 0 0)).setCell ⟨w.heap.size + 3, 0, none⟩ (.int .i64 ((k : Int) + 1))) := by
      have hF7 := (hF5.grown gg (fun k e => by cases e; exact .inl (.inl rfl))).grown g3 (fun k e => by cases e; exact .inr (by omega))
      have hsg := gg.size
      have hs3 := g3.size
      refine ⟨(hk5.trans (KeepsOthers.setCell _ _ _)).trans (KeepsOthers.setCell _ _ _), ⟨(q0'.kept gg (by simp; omega)).kept g3 (by simp), (q1'.kept gg (by simp; omega)).kept g3 (by simp), ⟨_, (q2'.kept gg (by simp; omega)).kept g3 (by simp), ?_, fun e => by simp at e⟩, q3g.set _, ⟨_, htl6.same (g3.block g (by omega) (by simp; omega)), ?_, fun _ => rfl⟩, hF7, by omega, ?_⟩, ?_, ?_, ?_, ?_⟩
      · have hne : ∀ j, (SL j ∨ w.heap.size + 6 ≤ j) → j ≠ g ∧ j ≠ w.heap.size + 3 := fun j hj => by
          rcases hj with h | h
          · have := hSL j h; omega
          · omega
        exact (ho5.keep (fun j hj hlt => gg.block j hlt (by simp; exact (hne j hj).1))).keep (fun j hj hlt => g3.block j hlt (by simp; exact (hne j hj).2))
      · simp only [Nat.add_eq_zero_iff, Nat.one_ne_zero, and_false, if_false]
        exact OwnB.nil _ _
      · simp
        omega
      · exact (edge_set hx5 0 _).grown g3 (by simp; omega)
      · exact g3.cell (gg.cell hbb5 (by simp; omega)) (by simp)
      · exact g3.cell (gg.cell hbe5 (by simp; omega)) (by simp)
      · exact (HR.out.keep (fun j hj hlt => hF7.same j hlt (by
          rintro (h | h)
          · exact hj.1 h
          · exact hj.2 h))).mono (fun j hj _ => hj.1)
    have HFIN := Lib.hid hFin
    clear hFin ho5 q2' q0' q1' q3' htl5 hF5 hk5 hx5 hbb5 hbe5 hsz5 htl6 q3g g2 g3 gg hIT b0 b1 b2 b3 ho htl hol hnil hF hD hcut hcl' hrb
    gi_wp2
    exact HFIN.out
  case done =>
    rintro D ⟨at_, cs⟩ W hD hI ⟨h, hcame, hit⟩ hK
    obtain ⟨b0, b1, ⟨v, b2, ho, hv0⟩, b3, ⟨lv, htl, hol, hnil⟩, hF, hDD, hcl⟩ := hI
    dsimp only at b3 ho hv0 hcl hol hnil hcame
    obtain ⟨xs, hxs⟩ : ∃ xs, (if at_ = 0 then h0 else []) = xs := ⟨_, rfl⟩
    obtain ⟨ys, hys⟩ : ∃ ys, bs.drop at_ = ys := ⟨_, rfl⟩
    have hat := hcame.1
    have hpe : xs ++ ys = h := by
      have := pend_cut0 h0 bs at_ bs.length
      rw [← hcame.2.2.2, List.take_length, hxs, hys] at this
      exact this
    have hrun := hcame.2.2.1
    rw [List.take_length] at hrun
    rw [hxs] at hol
    obtain ⟨A', cap', hcut, hcl', hcr⟩ := cutD A cap bs ys (at_ : Int) (by omega) (by omega) hcap (by rw [← hys]; congr 1)
    have hrb : RdB W.drew W.heap.size A' ys := hcr W W.heap.size (hit.2.2.2.rdB)
    have hyl : ys.length ≤ bs.length := by rw [← hys]; simp
    have hxl : xs.length ≤ h0.length := by rw [← hxs]; split <;> simp
    have hol2 : OwnB W (fun k => (at_ = 0 ∧ (SL k ∨ w.heap.size + 6 ≤ k)) ∨ (0 < at_ ∧ W.heap.size ≤ k)) lv xs := by
      by_cases h0' : at_ = 0
      · exact hol.mono (fun k hk _ => .inl ⟨h0', hk⟩)
      · have := hnil (by omega)
        rw [if_neg h0'] at hxs
        subst this hxs
        exact OwnB.nil _ _
    have hS2n : (fun k => (at_ = 0 ∧ (SL k ∨ w.heap.size + 6 ≤ k)) ∨ (0 < at_ ∧ W.heap.size ≤ k)) W.heap.size := by
      by_cases h0' : at_ = 0
      · exact .inl ⟨h0', .inr hDD⟩
      · exact .inr ⟨by omega, Nat.le_refl _⟩
    obtain ⟨A0, c0, rfl⟩ := hol.shape
    have HRUN := Lib.hid hrun
    have HPE := Lib.hid hpe
    have HHK := Lib.hid hK
    have HV0 := Lib.hid hv0
    have c0' := b0.cell
    have c1' := b1.cell
    have c3' := b3.cell
    clear hcr hcame hrun hpe hxs hK hv0
    go_wp2_with fail
    refine wp_region_noPanic ?_
    refine wp_region_any (by kernel_rfl) ?_
    refine wpAny_of_till (S := fun W' => Boxed W' w.heap.size 34 (.pointer (some ⟨g, 0, none⟩)) ∧ Boxed W' (w.heap.size + 1) 22 (.slice A bs.length cap) ∧ Boxed W' (w.heap.size + 3) 3 (.int .i64 at_) ∧ W'.cell? ⟨g, 20, none⟩ = some (.slice A0 xs.length c0)) (c := 11) _ _ _ _ ?_
    have hS0 : Boxed W.drew w.heap.size 34 (.pointer (some ⟨g, 0, none⟩)) ∧ Boxed W.drew (w.heap.size + 1) 22 (.slice A bs.length cap) ∧ Boxed W.drew (w.heap.size + 3) 3 (.int .i64 at_) ∧ W.drew.cell? ⟨g, 20, none⟩ = some (.slice A0 xs.length c0) := ⟨b0, b1, b3, htl.1⟩
    refine wpTill_take 0 (.pointer (some ⟨g, 0, none⟩)) (by simp only [List.getElem?_toArray, List.getElem?_cons_succ, List.getElem?_cons_zero]; rfl) (by kernel_rfl) (by kernel_rfl) (by kernel_rfl) (by kernel_rfl) (by kernel_rfl) (by kernel_rfl) (by rfl) (fun _ _ _ h => h) hS0 (fun w hSw => by
      obtain ⟨q0, q1, q3, r4⟩ := hSw
      have r0 := q0.cell
      have r1 := q1.cell
      have r3 := q3.cell
      go_simp) ?_
    try simp only [Act.put, List.setIfInBounds_toArray, List.set_cons_zero, List.set_cons_succ]
    refine wpTill_take 1 (.pointer (some ⟨g, 0, none⟩)) (by simp only [List.getElem?_toArray, List.getElem?_cons_succ, List.getElem?_cons_zero]; rfl) (by kernel_rfl) (by kernel_rfl) (by kernel_rfl) (by kernel_rfl) (by kernel_rfl) (by kernel_rfl) (by rfl) (fun _ _ _ h => h) hS0 (fun w hSw => by
      obtain ⟨q0, q1, q3, r4⟩ := hSw
      have r0 := q0.cell
      have r1 := q1.cell
      have r3 := q3.cell
      go_simp) ?_
    try simp only [Act.put, List.setIfInBounds_toArray, List.set_cons_zero, List.set_cons_succ]
    refine wpTill_take 2 (.pointer (some ⟨g, 0, none⟩)) (by simp only [List.getElem?_toArray, List.getElem?_cons_succ, List.getElem?_cons_zero]; rfl) (by kernel_rfl) (by kernel_rfl) (by kernel_rfl) (by kernel_rfl) (by kernel_rfl) (by kernel_rfl) (by rfl) (fun _ _ _ h => h) hS0 (fun w hSw => by
      obtain ⟨q0, q1, q3, r4⟩ := hSw
      have r0 := q0.cell
      have r1 := q1.cell
      have r3 := q3.cell
      go_simp) ?_
    try simp only [Act.put, List.setIfInBounds_toArray, List.set_cons_zero, List.set_cons_succ]
    refine wpTill_take 3 (.pointer (some ⟨g, 20, none⟩)) (by simp only [List.getElem?_toArray, List.getElem?_cons_succ, List.getElem?_cons_zero]; rfl) (by kernel_rfl) (by kernel_rfl) (by kernel_rfl) (by kernel_rfl) (by kernel_rfl) (by kernel_rfl) (by rfl) (fun _ _ _ h => h) hS0 (fun w hSw => by
      obtain ⟨q0, q1, q3, r4⟩ := hSw
      have r0 := q0.cell
      have r1 := q1.cell
      have r3 := q3.cell
      go_simp) ?_
    try simp only [Act.put, List.setIfInBounds_toArray, List.set_cons_zero, List.set_cons_succ]
    refine wpTill_take 4 (.slice A0 xs.length c0) (by simp only [List.getElem?_toArray, List.getElem?_cons_succ, List.getElem?_cons_zero]; rfl) (by kernel_rfl) (by kernel_rfl) (by kernel_rfl) (by kernel_rfl) (by kernel_rfl) (by kernel_rfl) (by rfl) (fun _ _ _ h => h) hS0 (fun w hSw => by
      obtain ⟨q0, q1, q3, r4⟩ := hSw
      have r0 := q0.cell
      have r1 := q1.cell
      have r3 := q3.cell
      go_simp) ?_
    try simp only [Act.put, List.setIfInBounds_toArray, List.set_cons_zero, List.set_cons_succ]
    refine wpTill_take 5 (.slice A bs.length cap) (by simp only [List.getElem?_toArray, List.getElem?_cons_succ, List.getElem?_cons_zero]; rfl) (by kernel_rfl) (by kernel_rfl) (by kernel_rfl) (by kernel_rfl) (by kernel_rfl) (by kernel_rfl) (by rfl) (fun _ _ _ h => h) hS0 (fun w hSw => by
      obtain ⟨q0, q1, q3, r4⟩ := hSw
      have r0 := q0.cell
      have r1 := q1.cell
      have r3 := q3.cell
      go_simp) ?_
    try simp only [Act.put, List.setIfInBounds_toArray, List.set_cons_zero, List.set_cons_succ]
    refine wpTill_take 6 (.int .i64 at_) (by simp only [List.getElem?_toArray, List.getElem?_cons_succ, List.getElem?_cons_zero]; rfl) (by kernel_rfl) (by kernel_rfl) (by kernel_rfl) (by kernel_rfl) (by kernel_rfl) (by kernel_rfl) (by rfl) (fun _ _ _ h => h) hS0 (fun w hSw => by
      obtain ⟨q0, q1, q3, r4⟩ := hSw
      have r0 := q0.cell
      have r1 := q1.cell
      have r3 := q3.cell
      go_simp) ?_
    try simp only [Act.put, List.setIfInBounds_toArray, List.set_cons_zero, List.set_cons_succ]
    refine wpTill_take 7 (.slice A' ys.length cap') (by simp only [List.getElem?_toArray, List.getElem?_cons_succ, List.getElem?_cons_zero]; rfl) (by kernel_rfl) (by kernel_rfl) (by kernel_rfl) (by kernel_rfl) (by kernel_rfl) (by kernel_rfl) (by rfl) (fun _ _ _ h => h) hS0 (fun w hSw => by
      obtain ⟨q0, q1, q3, r4⟩ := hSw
      have r0 := q0.cell
      have r1 := q1.cell
      have r3 := q3.cell
      go_simp) ?_
    try simp only [Act.put, List.setIfInBounds_toArray, List.set_cons_zero, List.set_cons_succ]
    have hlb : ∀ k, (Value.slice A0 xs.length c0).ownBlock = some k → (SL k ∨ w.heap.size + 6 ≤ k) := fun k e => hol.base k e
    have hlb' : ∀ j, (j = g ∨ (w.heap.size ≤ j ∧ j < w.heap.size + 6)) → some j ≠ (Value.slice A0 xs.length c0).ownBlock := fun j hj e => by
      rcases hlb j e.symm with h | h
      · have := hSL j h; omega
      · omega
    refine wpTill_one 8 (by simp only [List.getElem?_toArray, List.getElem?_cons_succ, List.getElem?_cons_zero]; rfl) (by kernel_rfl) (by rfl) (fun K hK => ?_)
    refine wp_append_bytes W.drew _ _ rfl (fun k => (at_ = 0 ∧ (SL k ∨ w.heap.size + 6 ≤ k)) ∨ (0 < at_ ∧ W.heap.size ≤ k)) (.slice A0 xs.length c0) xs ys rfl hol2 W.heap.size A' cap' rfl hrb (by omega) hS2n ?_
    intro v1 W1 ho1 hg1 hat1
    rw [HPE.out] at ho1
    have hg1 : W.grownBy W1 (Value.slice A0 xs.length c0).ownBlock := ⟨hg1.os, hg1.tape, hg1.output, hg1.size, hg1.block⟩
    have p0 := b0.kept hg1 (hlb' _ (by omega))
    have p1 := b1.kept hg1 (hlb' _ (by omega))
    have p2 := b2.kept hg1 (hlb' _ (by omega))
    have p3 := b3.kept hg1 (hlb' _ (by omega))
    have htl1 : Tl W1 g (.slice A0 xs.length c0) := htl.same (hg1.block g (by have := hF.size; omega) (hlb' g (by omega)))
    have hF1 := hF.grown hg1 (fun k e => by rcases hlb k e with h | h; exact .inl (.inr h); exact .inr (by omega))
    have hk1 : KeepsOthers W W1 := cells_keep hg1 hol.blk
    have hx1 := hit.1.grown hg1 (hlb' g (by omega))
    have hoL1 : OwnL W1 (fun k => 0 < at_ ∧ (SL k ∨ w.heap.size + 6 ≤ k) ∧ k < W.heap.size) v cs := by
      by_cases h0' : at_ = 0
      · have hcs : cs = [] := List.eq_nil_of_length_eq_zero (by omega)
        rw [HV0.out hcs, hcs]
        exact OwnL.nil _ _
      · have hn := hnil (by omega)
        rw [hn] at hg1
        exact (ho.mono (fun k hk hlt => ⟨by omega, hk, hlt⟩)).turn none hg1 (fun k e => by cases e) (fun k e => by cases e)
    have hzW := hg1.size
    have hS1 : Boxed W1 w.heap.size 34 (.pointer (some ⟨g, 0, none⟩)) ∧ Boxed W1 (w.heap.size + 1) 22 (.slice A bs.length cap) ∧ Boxed W1 (w.heap.size + 3) 3 (.int .i64 at_) ∧ W1.cell? ⟨g, 20, none⟩ = some (.slice A0 xs.length c0) := ⟨p0, p1, p3, htl1.1⟩
    refine hK.out _ _ (fun _ => hS1) ?_
    try simp only [Act.put, List.setIfInBounds_toArray, List.set_cons_zero, List.set_cons_succ]
    refine wpTill_takeW 9 (.pointer (some ⟨g, 0, none⟩)) (by simp only [List.getElem?_toArray, List.getElem?_cons_succ, List.getElem?_cons_zero]; rfl) (by kernel_rfl) (by kernel_rfl) (by kernel_rfl) (by kernel_rfl) (by rfl) (fun _ _ _ h => h) hS1 (fun w => by go_simp) ?_
    try simp only [Act.put, List.setIfInBounds_toArray, List.set_cons_zero, List.set_cons_succ]
    refine wpTill_takeW 10 (.pointer (some ⟨g, 20, none⟩)) (by simp only [List.getElem?_toArray, List.getElem?_cons_succ, List.getElem?_cons_zero]; rfl) (by kernel_rfl) (by kernel_rfl) (by kernel_rfl) (by kernel_rfl) (by rfl) (fun _ _ _ h => h) hS1 (fun w => by go_simp) ?_
    try simp only [Act.put, List.setIfInBounds_toArray, List.set_cons_zero, List.set_cons_succ]
    obtain ⟨A1, k1, e1⟩ := ho1.shape
    subst e1
    have c20 := htl1.1
    have f20 := htl1.2.1
    refine wpTill_past 11 (by simp only [List.getElem?_toArray, List.getElem?_cons_succ, List.getElem?_cons_zero]; rfl) (by kernel_rfl) (by rfl) (by kernel_rfl) (fun K hK => ?_)
    go_simp
    refine hK.out _ _ ?_
    refine wpTill_done (by kernel_rfl) ?_ _
    refine NoPanic.normal ?_
    have gg : W1.grownBy (W1.setCell ⟨g, 20, none⟩ (.slice A1 h.length k1)) (some g) := only_setCell (World.grownBy.refl W1 _) (.inl rfl) _
    have htl7 := htl1.set (.slice A1 h.length k1)
    have hx7 := edge_set hx1 0 (.slice A1 h.length k1)
    have hK7 := (hk1.trans (KeepsOthers.setCell _ ⟨g, 20, none⟩ (.slice A1 h.length k1))).same D _ HHK.out rfl
    have hF7 := hF1.grown gg (fun k e => by cases e; exact .inl (.inl rfl))
    have hoL7 := hoL1.keep (fun k hk hlt => gg.block k hlt (by
      simp
      rcases hk.2.1 with h | h
      · exact (hSL k h).1
      · omega))
    have hoB7 := ho1.keep (fun k hk hlt => gg.block k hlt (by
      simp
      have := hF.size
      rcases hk with ⟨_, h | h⟩ | ⟨_, h⟩
      · exact (hSL k h).1
      · omega
      · omega))
    have p2' := p2.kept gg (by simp; omega)
    clear hoL1 ho1 hg1 hat1 hk1 hF1 htl1 hx1 p0 p1 p2 p3 c20 f20 hK hS0 hS1 hrb hcut c0' c1' c3' gg b0 b1 b2 b3
    generalize W1.setCell ⟨g, 20, none⟩ (.slice A1 h.length k1) = W7 at *
    have hc7 := p2'.cell
    have HT7 := Lib.hid htl7
    have HX7 := Lib.hid hx7
    have HK7 := Lib.hid hK7
    have HF7 := Lib.hid hF7
    have HL7 := Lib.hid hoL7
    have HB7 := Lib.hid hoB7
    have hg7 := hF7.size
    clear htl7 hx7 hK7 hF7 hoL7 hoB7 p2' htl hol hol2 ho hF hit
    go_wp2_with fail
    refine ⟨by simp, .inl ⟨_, _, rfl, run_takeDeferred HK7.out, ?_⟩⟩
    rw [HRUN.out]
    have hgp := grownBy_putObj' W7 D (.deferred none)
    have hnc : NoCells W7 (some D) := noCells_at HK7.out rfl
    refine ⟨_, results_list (rs := [.tmp 4, .tmp 5]) rfl (by simp) (.tmp (.tmp .nil)), v, (.slice A1 h.length k1), (fun k => 0 < at_ ∧ (SL k ∨ w.heap.size + 6 ≤ k) ∧ k < W.heap.size), (fun k => (at_ = 0 ∧ (SL k ∨ w.heap.size + 6 ≤ k)) ∨ (0 < at_ ∧ W.heap.size ≤ k)), rfl, ?_, ?_, ?_, ?_, ?_, ?_⟩
    · exact (HT7.out.cut HX7.out).grown hgp (by simp; omega)
    · exact HL7.out.turn (some D) hgp (fun k e cs => hnc.ne k e _ cs) (fun k e cs => hnc.ne k e _ cs)
    · exact HB7.out.turn (some D) hgp (fun k e cs => hnc.ne k e _ cs)
    · intro k h1 h2
      omega
    · intro k hk
      have := hg7
      rcases hk with ⟨_, h | h, _⟩ | ⟨_, h | h⟩ | ⟨_, h⟩
      · exact .inl h
      · exact .inr (by omega)
      · exact .inl h
      · exact .inr (by omega)
      · exact .inr (by omega)
    · exact HF7.out.grown hgp (fun k e => by cases e; exact .inr (by omega))
end Go.Proofs.Ytneieogpdjlnbaa
