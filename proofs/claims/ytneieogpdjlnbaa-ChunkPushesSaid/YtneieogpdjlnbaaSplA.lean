/- The walks of package chunk's cuts and Split. Conditions: those that each statement names. -/
import Derived.Test.YtneieogpdjlnbaaLst
set_option linter.unusedVariables false
set_option linter.unusedSimpArgs false
namespace Go.Proofs.Ytneieogpdjlnbaa
open Go Go.RowKit Go.Shelf Go.Proofs.YtneieogpdjlnbaaW.PrintWords

attribute [local go_sem] Oper.semAt_some

set_option maxHeartbeats 400000 in
theorem cuts_any (q : Option Addr) (A : Option Addr) (n cap : Nat) (w : World) :
    Calls Try.prog 54 #[.pointer q, .slice A n cap] w fun e w' => e = .returned (.func (.func 57) #[] #[.pointer (some ⟨w.heap.size + 1, 0, none⟩), .pointer (some ⟨w.heap.size, 0, none⟩)]) ∧
      w' = (w.alloc (.cells #[.pointer q] 81)).alloc (.cells #[.slice A n cap] 22) := by
  go_enter Try.func54, Try.ntmps54
  go_wp2_with fail
  go_ret
  exact ⟨by simp, rfl⟩

/-- What Split's loop keeps: the boxes of b, out, at; out is its own; nothing that was there turns. -/
def SplI (w : World) (g D cap : Nat) (A : Option Addr) (bs : List Int) (s : Nat × List (List Int)) (W : World) : Prop :=
  Boxed W w.heap.size 22 (.slice A bs.length cap) ∧ (∃ v, Boxed W (w.heap.size + 1) 39 v ∧ OwnL W (D ≤ ·) v s.2) ∧ Boxed W (g + 1) 3 (.int .i64 s.1) ∧ Below w.heap.size w W ∧ D ≤ W.heap.size ∧ s.2.length ≤ s.1
theorem blk_of_box {W : World} {B : Nat} {t : TypeId} {v : Value} (h : Boxed W B t v) : Blk W B t #[v] := h
theorem SplI.turn {w : World} {g D cap : Nat} {A : Option Addr} {bs : List Int} (hD : w.heap.size ≤ D) : OwnFrom D (SplI w g D cap A bs) := by
  rintro s W W' row ⟨h1, ⟨v, h2, h3⟩, h4, h5, h6, h7⟩ hg hr
  have hn : NoCells W row := fun r e => (hr r e).2
  exact ⟨h1.kept hg (fun e => hn.ne _ e.symm _ _ (blk_of_box h1)), ⟨v, h2.kept hg (fun e => hn.ne _ e.symm _ _ (blk_of_box h2)), h3.turn row hg (fun k e cs => hn.ne k e _ cs) (fun k e cs => hn.ne k e _ cs)⟩, h4.kept hg (fun e => hn.ne _ e.symm _ _ (blk_of_box h4)),
    h5.grown hg h5.size (fun k e => Nat.le_trans hD (hr k e).1), Nat.le_trans h6 hg.size, h7⟩
theorem SplI.st {w : World} {g D cap : Nat} {A : Option Addr} {bs : List Int} (hg0 : w.heap.size + 2 ≤ g) (hgD : g < D) {s : Nat × List (List Int)} {W W' : World} (h : SplI w g D cap A bs s W) (hs : StE g W W') : SplI w g D cap A bs s W' := by
  obtain ⟨h1, ⟨v, h2, h3⟩, h4, h5, h6, h7⟩ := h
  refine ⟨h1.kept hs.1 (by simp; omega), ⟨v, h2.kept hs.1 (by simp; omega), h3.keep (fun k hk hlt => hs.1.block k hlt (by simp; omega))⟩, h4.kept hs.1 (by simp), h5.grown hs.1 h5.size (fun k e => by cases e; omega), Nat.le_trans h6 hs.1.size, h7⟩
theorem EdgeX.turn {W W' : World} {g : Nat} {h : List Int} {row : Option Nat} (he : EdgeX W g h) (hg : W.grownBy W' row) (hn : NoCells W row) : EdgeX W' g h := by
  obtain ⟨t, rest, hr⟩ := he
  refine ⟨t, rest, Rol.grown hr hg (fun e => ?_)⟩
  obtain ⟨_, ring, n, s, _, hb⟩ := hr
  exact hn.ne _ e.symm _ _ hb
theorem ITh.turn {g Bb Be cap : Nat} {A : Option Addr} {bs h : List Int} (D : Nat) : OwnFrom D (fun (_ : Unit) W => ITh g Bb Be A cap bs W h) := by
  rintro s W W' row ⟨h1, h2, h3, h4⟩ hg hr
  have hn : NoCells W row := fun r e => (hr r e).2
  exact ⟨h1.turn hg hn, cell_kept h2 hg hn, cell_kept h3 hg hn, h4.turn hg hn⟩
theorem FinTurn {g Bb Be cap : Nat} {A : Option Addr} {h0 bs : List Int} (D : Nat) : OwnFrom D (fun (s : Nat × List (List Int)) W => ∃ h, Came h0 bs bs.length s.1 s.2 h ∧ ITh g Bb Be A cap bs W h) := by
  rintro s W W' row ⟨h, hc, hi⟩ hg hr
  exact ⟨h, hc, ITh.turn (g := g) (Bb := Bb) (Be := Be) (cap := cap) (A := A) (bs := bs) (h := h) D () W W' row hi hg hr⟩
theorem pend_cut (bs : List Int) (at_ k : Nat) : (bs.take k).drop at_ = pendB [] bs at_ k := by
  unfold pendB
  split
  · rename_i h; subst h; simp
  · rfl

theorem noCells_at {W : World} {D : Nat} {o : Obj} (h : W.heap[D]? = some o) (ho : o.isCells = false) : NoCells W (some D) := fun r e => by cases e; exact ⟨o, h, ho⟩
theorem Came.split_lt {bs : List Int} {at_ : Nat} {cs : List (List Int)} {h : List Int} (hc : Came [] bs bs.length at_ cs h) (hlt : at_ < bs.length) : splitB bs = cs ++ [bs.drop at_] := by
  obtain ⟨h1, h2, h3, h4⟩ := hc
  rw [← pend_cut, List.take_length] at h4
  rw [List.take_length] at h3
  subst h4
  unfold splitB
  rw [h3]
  have hne : bs.drop at_ ≠ [] := fun e => by have := congrArg List.length e; simp at this; omega
  simp only [hne, if_false]
theorem Came.split_ge {bs : List Int} {at_ : Nat} {cs : List (List Int)} {h : List Int} (hc : Came [] bs bs.length at_ cs h) (hge : bs.length ≤ at_) : splitB bs = cs := by
  obtain ⟨h1, h2, h3, h4⟩ := hc
  rw [← pend_cut, List.take_length, List.drop_of_length_le hge] at h4
  rw [List.take_length] at h3
  subst h4
  unfold splitB
  rw [h3]
  simp

set_option maxRecDepth 100000 in
set_option maxHeartbeats 3200000 in
theorem split_any (S : Nat → Prop) (cap : Nat) (A : Option Addr) (bs : List Int) (w : World) (hr : RdS w S A bs) (hl : bs.length ≤ 900000) (hcap : bs.length ≤ cap) :
    Calls Try.prog 36 #[.slice A bs.length cap] w fun e w' => ∃ v, e = .returned v ∧ OwnL w' (w.heap.size ≤ ·) v (splitB bs) ∧ Below w.heap.size w w' := by
  have HR := Lib.hid hr.rdB
  clear hr
  refine callsIn_wide.1 (callsIn_of_wp_marks (n := 5) Try.func36 rfl trivial ?_ rfl)
  simp only [Try.ntmps36, List.size_toArray, List.length_cons, List.length_nil, Nat.reduceAdd, Nat.reduceSub, Array.replicate_succ, Array.replicate_zero, List.push_toArray, List.append_toArray, List.nil_append, List.cons_append]
  refine wpIn_wide.2 ?_
  go_wp2_with fail
  refine (fresh_any _).mono ?_
  rintro e w1 ⟨rfl, hB1⟩
  have hF : ∀ W2, ((w1.alloc (.cells edgeN 68)).alloc (.cells #[.int .i64 0] 3)).setRow w1.heap.size edge0 = W2 → Boxed W2 w.heap.size 22 (.slice A bs.length cap) ∧ Boxed W2 (w.heap.size + 1) 39 (.slice none 0 0) ∧ Boxed W2 (w1.heap.size + 1) 3 (.int .i64 0) ∧ EdgeX W2 w1.heap.size [] ∧ Below w.heap.size w W2 ∧ W2.heap.size = w1.heap.size + 2 ∧ w.heap.size + 2 ≤ w1.heap.size := by
    rintro W2 rfl
    have hz : w.heap.size + 2 ≤ w1.heap.size := by have := hB1.size; simp at this; omega
    have b1 : Boxed w1 w.heap.size 22 (.slice A bs.length cap) := (hB1.block _ (by simp; omega)).trans ((Boxed.new w 22 _).alloc _)
    have b2 : Boxed w1 (w.heap.size + 1) 39 (.slice none 0 0) := by
      refine (hB1.block _ (by simp)).trans ?_
      have := Boxed.new (w.alloc (.cells #[.slice A bs.length cap] 22)) 39 (.slice none 0 0)
      rw [World.size_alloc] at this
      exact this
    have b3 : Boxed ((w1.alloc (.cells edgeN 68)).alloc (.cells #[.int .i64 0] 3)) (w1.heap.size + 1) 3 (.int .i64 0) := by
      have := Boxed.new (w1.alloc (.cells edgeN 68)) 3 (.int .i64 0)
      rw [World.size_alloc] at this
      exact this
    have hx : Blk ((w1.alloc (.cells edgeN 68)).alloc (.cells #[.int .i64 0] 3)) w1.heap.size 68 edgeN := (Blk.new w1 68 edgeN).alloc _
    have hrow := setRow_heap _ w1.heap.size _ edge0 68 (0, 0) hx
    have hoth : ∀ k, k ≠ w1.heap.size → (((w1.alloc (.cells edgeN 68)).alloc (.cells #[.int .i64 0] 3)).setRow w1.heap.size edge0).heap[k]? = ((w1.alloc (.cells edgeN 68)).alloc (.cells #[.int .i64 0] 3)).heap[k]? := fun k hk => setRow_other _ _ k _ hk
    have hB2 : Below w.heap.size w w1 := (((Below.refl w.heap.size w).alloc (Nat.le_refl _) _).alloc (by simp) _).trans (hB1.mono (by simp; omega))
    refine ⟨(hoth _ (by omega)).trans ((b1.alloc _).alloc _), (hoth _ (by omega)).trans ((b2.alloc _).alloc _), (hoth _ (by omega)).trans b3, ?_, ?_, by simp, hz⟩
    · exact ⟨68, [], fun x hx => by simp at hx, _, 0, 0, RS_nil, hrow⟩
    · exact below_setRow ((hB2.alloc (by omega) _).alloc (by simp; omega) _) (by omega) _
  have hblk : Blk ((w1.alloc (.cells edgeN 68)).alloc (.cells #[.int .i64 0] 3)) w1.heap.size 68 edgeN := (Blk.new w1 68 edgeN).alloc _
  have HO : Hid (((w1.alloc (.cells edgeN 68)).alloc (.cells #[.int .i64 0] 3)).heap[w1.heap.size]? = some (.cells edgeN 68 (0, 0))) := hblk
  have HF := Lib.hid hF
  clear hblk hF hB1
  go_wp2_with (first
    | (refine wpList_store_row rfl 68 _ _ rfl w1.heap.size edge0 rfl rfl 68 edgeN HO.out (by kernel_rfl) rfl (by kernel_rfl) ?_; generalize hW2 : World.setRow _ _ _ = W2; obtain ⟨b1, b3, b5, hX, hB2, hz2, hz1⟩ := HF.out W2 hW2; have HB1 := Lib.hid b1; have HB3 := Lib.hid b3; have HB5 := Lib.hid b5; have HX := Lib.hid hX; have HB2 := Lib.hid hB2; have HZ2 := Lib.hid hz2; have c5 := b5.cell; have f5 := b5.frozen; have c1 := b1.alloc (.cells #[] 0); have c1' : (W2.setCell ⟨w1.heap.size + 1, 0, none⟩ (.int .i64 0)).cell? ⟨w.heap.size, 0, none⟩ = some (.slice A bs.length cap) := (b1.kept (grownBy_setCell' W2 (w1.heap.size + 1) _) (by simp; omega)).cell; clear b1 b3 b5 hX hB2 hz2 hW2 c1)
    | (go_at_call 54; refine (cuts_any _ _ _ _ _).mono ?_; rintro e w3 ⟨rfl, hw3⟩; have HW3 := Lib.hid hw3; clear hw3))
  clear HF HO c1' c5 f5
  have hw3 := HW3.out
  clear HW3
  generalize w1.heap.size = g at *
  have hz3 : w3.heap.size = g + 4 := by rw [hw3]; have := HZ2.out; simp; omega
  have hz2 : W2.heap.size = g + 2 := HZ2.out
  have hgb : W2.grownBy w3 (some (g + 1)) := by rw [hw3]; exact only_alloc (only_alloc (grownBy_setCell' W2 (g + 1) _) _) _
  have hX3 : EdgeX w3 g [] := HX.out.grown hgb (by simp)
  have c1 := (HB1.out.kept hgb (by simp; omega))
  have c3 := (HB3.out.kept hgb (by simp; omega))
  have c5 : Boxed w3 (g + 1) 3 (.int .i64 0) := by rw [hw3]; exact ((HB5.out.set _).alloc _).alloc _
  have cBe : Boxed w3 (g + 2) 81 (.pointer (some ⟨g, 0, none⟩)) := by
    have := (Boxed.new (W2.setCell ⟨g + 1, 0, none⟩ (.int .i64 0)) 81 (.pointer (some ⟨g, 0, none⟩))).alloc (.cells #[.slice A bs.length cap] 22)
    rw [hw3]
    rw [World.size_setCell, hz2] at this
    exact this
  have cBb : Boxed w3 (g + 3) 22 (.slice A bs.length cap) := by
    have := Boxed.new ((W2.setCell ⟨g + 1, 0, none⟩ (.int .i64 0)).alloc (.cells #[.pointer (some ⟨g, 0, none⟩)] 81)) 22 (.slice A bs.length cap)
    rw [hw3]
    rw [World.size_alloc, World.size_setCell, hz2] at this
    exact this
  have hB3 : Below w.heap.size w w3 := HB2.out.grown hgb HB2.out.size (fun k e => by cases e; omega)
  have hrd3 : RdS w3 (· ≠ g) A bs := ((HR.out.below hB3).rdS).mono (fun k hk _ => by omega)
  have hI0 : SplI w g (g + 4) cap A bs (0, []) w3 := ⟨c1, ⟨_, c3, OwnL.nil _ _⟩, c5, hB3, by omega, by simp⟩
  have hit0 : ITh g (g + 3) (g + 2) A cap bs w3 [] := ⟨hX3, cBb.cell, cBe.cell, hrd3⟩
  clear hgb hX3 c1 c3 c5 cBe cBb hB3 hrd3 HB1 HB3 HB5 HX HB2 hw3
  simp only [hz2]
  clear hz2 HZ2
  have hgD : g < g + 4 := by omega
  refine (wpIn_wide (n := 5)).1 ?_
  refine wpIn_rangeFunc_it (gf := 57) (lb := #[.pointer (some ⟨g + 3, 0, none⟩), .pointer (some ⟨g + 2, 0, none⟩)]) rfl (by omega) rfl trivial (enters_of Try.func57 (by kernel_rfl) rfl)
    (SplI w g (g + 4) cap A bs) (fun W => ITh g (g + 3) (g + 2) A cap bs W []) (fun W => ITh g (g + 3) (g + 2) A cap bs W []) (StE g)
    (fun s x s' => ∃ k : Nat, x = .int .i64 ((k : Int) + 1) ∧ s' = (k + 1, s.2 ++ [pendB [] bs s.1 (k + 1)]) ∧ s.1 ≤ k ∧ k < bs.length) (0, [])
    (fun s W => ∃ h, Came [] bs bs.length s.1 s.2 h ∧ ITh g (g + 3) (g + 2) A cap bs W h)
    (by rw [hz3]; exact SplI.turn (by omega)) (ITh.turn _) (ITh.turn _) (FinTurn _)
    (fun s W W' h hs => h.st hz1 hgD hs) (fun W W' hs => ⟨g, by omega, hs.1⟩)
    (fun l J W hst hy hj hit => (cuts1_in (5 - 1) l g (g + 3) (g + 2) cap A [] bs (by simp; omega) (by omega) (by omega) J hst
      (fun k at_ cs h W hj hi hc h1 h2 => hy (at_, cs) (k + 1, cs ++ [pendB [] bs at_ (k + 1)]) _ W hj hi ⟨k, rfl, rfl, h1, h2⟩) W hj hit).mono (by
        rintro e W' ⟨hv, at_, cs, h, hj', hc, hi⟩
        exact ⟨hv, (at_, cs), hj', h, hc, hi⟩))
    hI0 hit0
    (fun x => { tmps := #[.slice A bs.length cap, .pointer (some ⟨w.heap.size, 0, none⟩), .slice none 0 0, .pointer (some ⟨w.heap.size + 1, 0, none⟩), .pointer (some ⟨g, 0, none⟩), .pointer (some ⟨g + 1, 0, none⟩), x, .agg edge0, .slice A bs.length cap,
      .func (.func 57) #[] #[.pointer (some ⟨g + 3, 0, none⟩), .pointer (some ⟨g + 2, 0, none⟩)], x, undef, undef, undef, undef, undef, undef, undef, undef, undef, undef, undef, undef, undef, undef, undef, undef, undef, undef, undef, undef, undef], defers := [] }) ?assign ?body ?done
  case assign =>
    intro l x W K hK
    gi_wp2
    exact hK
  case body =>
    rintro l ⟨at_, cs⟩ s' x W hI hIT ⟨k, rfl, rfl, h1, h2⟩
    dsimp only at h1 ⊢
    obtain ⟨b1, ⟨v, b3, ho⟩, b5, hB, hD, hcl⟩ := hI
    dsimp only at b5 ho hcl
    obtain ⟨ys, hys⟩ : ∃ ys, pendB [] bs at_ (k + 1) = ys := ⟨_, rfl⟩
    obtain ⟨A', cap', hcut, hcl', hcr⟩ := cutM A cap bs ys (at_ : Int) ((k : Int) + 1) (by omega) (by omega) (by omega) hcap (by rw [← hys, ← pend_cut]; congr 1)
    rw [hys]
    have hrb := hcr W.drew W.heap.size (hIT.2.2.2.rdB)
    have hyl : ys.length ≤ 900000 := by rw [← hys, ← pend_cut]; simp; omega
    clear hcr
    refine wpIn_block ?_
    refine region_round (by kernel_rfl) (by kernel_rfl) (by rintro ⟨_, _, h⟩; exact h) ?_
    refine wpAny_of_till (S := fun W' => Boxed W' w.heap.size 22 (.slice A bs.length cap) ∧ Boxed W' (w.heap.size + 1) 39 v ∧ Boxed W' (g + 1) 3 (.int .i64 at_)) (c := 9) _ _ _ _ ?_
    have hS0 : Boxed W.drew w.heap.size 22 (.slice A bs.length cap) ∧ Boxed W.drew (w.heap.size + 1) 39 v ∧ Boxed W.drew (g + 1) 3 (.int .i64 at_) := ⟨b1, b3, b5⟩
    refine wpTill_take 0 v (by simp only [List.getElem?_toArray, List.getElem?_cons_succ, List.getElem?_cons_zero]; rfl) (by kernel_rfl) (by kernel_rfl) (by kernel_rfl) (by kernel_rfl) (by kernel_rfl) (by kernel_rfl) (by rfl) (fun _ _ _ h => h) hS0 (fun w hSw => by
      obtain ⟨q1, q3, q5⟩ := hSw
      have r1 := q1.cell
      have r3 := q3.cell
      have r5 := q5.cell
      go_simp) ?_
    try simp only [Act.put, List.setIfInBounds_toArray, List.set_cons_zero, List.set_cons_succ]
    refine wpTill_take 1 (.slice A bs.length cap) (by simp only [List.getElem?_toArray, List.getElem?_cons_succ, List.getElem?_cons_zero]; rfl) (by kernel_rfl) (by kernel_rfl) (by kernel_rfl) (by kernel_rfl) (by kernel_rfl) (by kernel_rfl) (by rfl) (fun _ _ _ h => h) hS0 (fun w hSw => by
      obtain ⟨q1, q3, q5⟩ := hSw
      have r1 := q1.cell
      have r3 := q3.cell
      have r5 := q5.cell
      go_simp) ?_
    try simp only [Act.put, List.setIfInBounds_toArray, List.set_cons_zero, List.set_cons_succ]
    refine wpTill_take 2 (.int .i64 at_) (by simp only [List.getElem?_toArray, List.getElem?_cons_succ, List.getElem?_cons_zero]; rfl) (by kernel_rfl) (by kernel_rfl) (by kernel_rfl) (by kernel_rfl) (by kernel_rfl) (by kernel_rfl) (by rfl) (fun _ _ _ h => h) hS0 (fun w hSw => by
      obtain ⟨q1, q3, q5⟩ := hSw
      have r1 := q1.cell
      have r3 := q3.cell
      have r5 := q5.cell
      go_simp) ?_
    try simp only [Act.put, List.setIfInBounds_toArray, List.set_cons_zero, List.set_cons_succ]
    refine wpTill_take 3 (.int .i64 ((k : Int) + 1)) (by simp only [List.getElem?_toArray, List.getElem?_cons_succ, List.getElem?_cons_zero]; rfl) (by kernel_rfl) (by kernel_rfl) (by kernel_rfl) (by kernel_rfl) (by kernel_rfl) (by kernel_rfl) (by rfl) (fun _ _ _ h => h) hS0 (fun w hSw => by
      obtain ⟨q1, q3, q5⟩ := hSw
      have r1 := q1.cell
      have r3 := q3.cell
      have r5 := q5.cell
      go_simp) ?_
    try simp only [Act.put, List.setIfInBounds_toArray, List.set_cons_zero, List.set_cons_succ]
    refine wpTill_takeW 8 (.int .i64 ((k : Int) + 1)) (by simp only [List.getElem?_toArray, List.getElem?_cons_succ, List.getElem?_cons_zero]; rfl) (by kernel_rfl) (by kernel_rfl) (by kernel_rfl) (by kernel_rfl) (by rfl) (fun _ _ _ h => h) hS0 (fun w => by go_simp) ?_
    try simp only [Act.put, List.setIfInBounds_toArray, List.set_cons_zero, List.set_cons_succ]
    refine wpTill_take 4 (.slice A' ys.length cap') (by simp only [List.getElem?_toArray, List.getElem?_cons_succ, List.getElem?_cons_zero]; rfl) (by kernel_rfl) (by kernel_rfl) (by kernel_rfl) (by kernel_rfl) (by kernel_rfl) (by kernel_rfl) (by rfl) (fun _ _ _ h => h) hS0 (fun w hSw => by
      obtain ⟨q1, q3, q5⟩ := hSw
      have r1 := q1.cell
      have r3 := q3.cell
      have r5 := q5.cell
      go_simp) ?_
    try simp only [Act.put, List.setIfInBounds_toArray, List.set_cons_zero, List.set_cons_succ]
    have hDg : g + 4 ≤ W.heap.size := hD
    refine wpTill_one 5 (by simp only [List.getElem?_toArray, List.getElem?_cons_succ, List.getElem?_cons_zero]; rfl) (by kernel_rfl) (by rfl) (fun K hK => ?_)
    refine wp_append_bytes W.drew _ _ rfl (g + 4 ≤ ·) (.slice none 0 0) [] ys rfl (OwnB.nil _ _) W.heap.size A' cap' rfl hrb (by simp; omega) hDg ?_
    intro v1 W1 ho1 hg1 hat1
    rw [List.nil_append] at ho1
    have hg1 : W.grownBy W1 none := ⟨hg1.os, hg1.tape, hg1.output, hg1.size, fun i hi _ => hg1.block i hi (by simp [Value.ownBlock])⟩
    have hS1 : Boxed W1 w.heap.size 22 (.slice A bs.length cap) ∧ Boxed W1 (w.heap.size + 1) 39 v ∧ Boxed W1 (g + 1) 3 (.int .i64 at_) := ⟨b1.kept hg1 (by simp), b3.kept hg1 (by simp), b5.kept hg1 (by simp)⟩
    have hz1' : W.heap.size ≤ W1.heap.size := hg1.size
    have hgA : W.grownBy (W1.alloc (.cells #[v1] 22)) none := only_alloc hg1 _
    have hoA : OwnL (W1.alloc (.cells #[v1] 22)) (g + 4 ≤ ·) v cs := ho.turn none hgA (fun k e => by cases e) (fun k e => by cases e)
    have ho1A : OwnB (W1.alloc (.cells #[v1] 22)) (g + 4 ≤ ·) v1 ys := ho1.turn none (World.grownBy_alloc W1 _ none) (fun k e => by cases e)
    obtain ⟨A1, k1, rfl⟩ := ho1.shape
    refine hK.out _ _ (fun _ => hS1) ?_
    try simp only [Act.put, List.setIfInBounds_toArray, List.set_cons_zero, List.set_cons_succ]
    refine wpTill_one 6 (by simp only [List.getElem?_toArray, List.getElem?_cons_succ, List.getElem?_cons_zero]; rfl) (by kernel_rfl) (by rfl) (fun K hK => ?_)
    go_simp
    refine hK.out _ _ (fun _ => ⟨hS1.1.alloc _, hS1.2.1.alloc _, hS1.2.2.alloc _⟩) ?_
    try simp only [Act.put, List.setIfInBounds_toArray, List.set_cons_zero, List.set_cons_succ]
    refine wpTill_one 7 (by simp only [List.getElem?_toArray, List.getElem?_cons_succ, List.getElem?_cons_zero]; rfl) (by kernel_rfl) (by rfl) (fun K hK => ?_)
    refine wp_append_rows (W1.alloc (.cells #[.slice A1 ys.length k1] 22)) _ _ rfl (g + 4 ≤ ·) v cs [ys] [.slice A1 ys.length k1] rfl hoA (Rows.one ho1A) (some ⟨W1.heap.size, 0, none⟩) 1 1 rfl rfl (fun _ => ⟨_, rfl, new_cell W1 _ 22⟩) (by simp; omega) (by simp; omega) ?_
    intro v2 W3 ho3 hg3 hat3
    have hvb : ∀ j, j < g + 4 → some j ≠ v.ownBlock := fun j hj e => by have := (ho.base j e.symm).1; omega
    have q1 := (hS1.1.alloc (.cells #[.slice A1 ys.length k1] 22)).kept hg3 (hvb _ (by omega))
    have q3 := (hS1.2.1.alloc (.cells #[.slice A1 ys.length k1] 22)).kept hg3 (hvb _ (by omega))
    have q5 := (hS1.2.2.alloc (.cells #[.slice A1 ys.length k1] 22)).kept hg3 (hvb _ (by omega))
    obtain ⟨A2, k2, e2⟩ := ho3.shape
    rw [List.length_append, List.length_singleton] at e2
    subst e2
    have hg4 : W.grownBy W3 v.ownBlock := World.grownBy.trans ⟨hgA.os, hgA.tape, hgA.output, hgA.size, fun i hi _ => hgA.block i hi (by simp)⟩ hg3
    refine hK.out _ _ (fun _ => ⟨q1, q3, q5⟩) ?_
    try simp only [Act.put, List.setIfInBounds_toArray, List.set_cons_zero, List.set_cons_succ]
    have r3 := q3.cell
    have f3 := q3.frozen
    have q3' := q3.set (.slice A2 (cs.length + 1) k2)
    have q5' := q5.kept (grownBy_setCell' W3 (w.heap.size + 1) (.slice A2 (cs.length + 1) k2)) (by simp; omega)
    have q1' := q1.kept (grownBy_setCell' W3 (w.heap.size + 1) (.slice A2 (cs.length + 1) k2)) (by simp)
    have r5 := q5'.cell
    have f5 := q5'.frozen
    refine wpTill_past 9 (by simp only [List.getElem?_toArray, List.getElem?_cons_succ, List.getElem?_cons_zero]; rfl) (by kernel_rfl) (by rfl) (by kernel_rfl) (fun K hK => ?_)
    go_simp
    refine hK.out _ _ ?_
    try simp only [Act.put, List.setIfInBounds_toArray, List.set_cons_zero, List.set_cons_succ]
    refine wpTill_past 10 (by simp only [List.getElem?_toArray, List.getElem?_cons_succ, List.getElem?_cons_zero]; rfl) (by kernel_rfl) (by rfl) (by kernel_rfl) (fun K hK => ?_)
    go_simp
    refine hK.out _ _ ?_
    refine wpTill_done (by kernel_rfl) ?_ _
    have hbase : ∀ k, v.ownBlock = some k → g + 4 ≤ k := fun k e => (ho.base k e).1
    have hB3 : Below w.heap.size w W3 := hB.grown hg4 hB.size (fun k e => by have := hbase k e; omega)
    have hBf : Below w.heap.size w ((W3.setCell ⟨w.heap.size + 1, 0, none⟩ (.slice A2 (cs.length + 1) k2)).setCell ⟨g + 1, 0, none⟩ (.int .i64 ((k : Int) + 1))) := (hB3.setCell (p := ⟨w.heap.size + 1, 0, none⟩) (by simp) _).setCell (p := ⟨g + 1, 0, none⟩) (by simp; omega) _
    have hk4 : KeepsOthers W W3 := KeepsOthers.of_grownBy hg4 (fun j o e ho' => by
      obtain ⟨_, cs', hb⟩ := ho.base j e
      unfold Blk at hb
      rw [hb] at ho'
      injection ho' with ho'
      rw [← ho']
      rfl)
    have g1 := grownBy_setCell' W3 (w.heap.size + 1) (.slice A2 (cs.length + 1) k2)
    have g2 := grownBy_setCell' (W3.setCell ⟨w.heap.size + 1, 0, none⟩ (.slice A2 (cs.length + 1) k2)) (g + 1) (.int .i64 ((k : Int) + 1))
    have hsz := hg4.size
    refine ⟨(hk4.trans (KeepsOthers.setCell _ _ _)).trans (KeepsOthers.setCell _ _ _), ⟨q1'.kept g2 (by simp; omega), ⟨_, q3'.kept g2 (by simp; omega), ?_⟩, q5'.set _, hBf, ?_, ?_⟩, ?_, ?_, ?_, ?_⟩
    · exact (ho3.keep (fun j hj hlt => g1.block j hlt (by simp; omega))).keep (fun j hj hlt => g2.block j hlt (by simp; omega))
    · have h1 := g1.size
      have h2 := g2.size
      omega
    · simp
      omega
    · exact (((hIT.1.grown hg4 (hvb g (by omega))).grown g1 (by simp; omega)).grown g2 (by simp))
    · exact g2.cell (g1.cell (hg4.cell hIT.2.1 (fun e => hvb (g + 3) (by omega) e)) (by simp; omega)) (by simp)
    · exact g2.cell (g1.cell (hg4.cell hIT.2.2.1 (fun e => hvb (g + 2) (by omega) e)) (by simp; omega)) (by simp)
    · exact ((HR.out.below hBf).rdS).mono (fun j hj _ => by omega)
  case done =>
    rintro D ⟨at_, cs⟩ W hD hI ⟨h, hcame, hit⟩ hK
    obtain ⟨b1, ⟨v, b3, ho⟩, b5, hB, hDD, hcl⟩ := hI
    dsimp only at b5 ho hcl hcame
    have c1 := b1.cell
    have c3 := b3.cell
    have c5 := b5.cell
    have HCM := Lib.hid hcame
    have HB1 := Lib.hid b1
    have HB3 := Lib.hid b3
    have HB5 := Lib.hid b5
    have HHO := Lib.hid ho
    have HHK := Lib.hid hK
    have HHB := Lib.hid hB
    clear hcame b1 b3 b5 ho hit hB
    by_cases hlt : at_ < bs.length
    · go_wp2_with fail
      obtain ⟨ys, hys⟩ : ∃ ys, bs.drop at_ = ys := ⟨_, rfl⟩
      obtain ⟨A', cap', hcut, hcl', hcr⟩ := cutD A cap bs ys (at_ : Int) (by omega) (by omega) hcap (by rw [← hys]; congr 1)
      have hrb : RdB W.drew w.heap.size A' ys := hcr W w.heap.size (HR.out.below HHB.out)
      have hyl : ys.length ≤ 900000 := by rw [← hys]; simp; omega
      clear hcr
      refine wp_region_noPanic ?_
      refine wp_region_any (by kernel_rfl) ?_
      refine wpAny_of_till (S := fun W' => Boxed W' w.heap.size 22 (.slice A bs.length cap) ∧ Boxed W' (w.heap.size + 1) 39 v ∧ Boxed W' (g + 1) 3 (.int .i64 at_)) (c := 7) _ _ _ _ ?_
      have hS0 : Boxed W.drew w.heap.size 22 (.slice A bs.length cap) ∧ Boxed W.drew (w.heap.size + 1) 39 v ∧ Boxed W.drew (g + 1) 3 (.int .i64 at_) := ⟨HB1.out, HB3.out, HB5.out⟩
      refine wpTill_take 0 v (by simp only [List.getElem?_toArray, List.getElem?_cons_succ, List.getElem?_cons_zero]; rfl) (by kernel_rfl) (by kernel_rfl) (by kernel_rfl) (by kernel_rfl) (by kernel_rfl) (by kernel_rfl) (by rfl) (fun _ _ _ h => h) hS0 (fun w hSw => by
        obtain ⟨q1, q3, q5⟩ := hSw
        have r1 := q1.cell
        have r3 := q3.cell
        have r5 := q5.cell
        go_simp) ?_
      try simp only [Act.put, List.setIfInBounds_toArray, List.set_cons_zero, List.set_cons_succ]
      refine wpTill_take 1 (.slice A bs.length cap) (by simp only [List.getElem?_toArray, List.getElem?_cons_succ, List.getElem?_cons_zero]; rfl) (by kernel_rfl) (by kernel_rfl) (by kernel_rfl) (by kernel_rfl) (by kernel_rfl) (by kernel_rfl) (by rfl) (fun _ _ _ h => h) hS0 (fun w hSw => by
        obtain ⟨q1, q3, q5⟩ := hSw
        have r1 := q1.cell
        have r3 := q3.cell
        have r5 := q5.cell
        go_simp) ?_
      try simp only [Act.put, List.setIfInBounds_toArray, List.set_cons_zero, List.set_cons_succ]
      refine wpTill_take 2 (.int .i64 at_) (by simp only [List.getElem?_toArray, List.getElem?_cons_succ, List.getElem?_cons_zero]; rfl) (by kernel_rfl) (by kernel_rfl) (by kernel_rfl) (by kernel_rfl) (by kernel_rfl) (by kernel_rfl) (by rfl) (fun _ _ _ h => h) hS0 (fun w hSw => by
        obtain ⟨q1, q3, q5⟩ := hSw
        have r1 := q1.cell
        have r3 := q3.cell
        have r5 := q5.cell
        go_simp) ?_
      try simp only [Act.put, List.setIfInBounds_toArray, List.set_cons_zero, List.set_cons_succ]
      refine wpTill_take 3 (.slice A' ys.length cap') (by simp only [List.getElem?_toArray, List.getElem?_cons_succ, List.getElem?_cons_zero]; rfl) (by kernel_rfl) (by kernel_rfl) (by kernel_rfl) (by kernel_rfl) (by kernel_rfl) (by kernel_rfl) (by rfl) (fun _ _ _ h => h) hS0 (fun w hSw => by
        obtain ⟨q1, q3, q5⟩ := hSw
        have r1 := q1.cell
        have r3 := q3.cell
        have r5 := q5.cell
        go_simp) ?_
      try simp only [Act.put, List.setIfInBounds_toArray, List.set_cons_zero, List.set_cons_succ]
      refine wpTill_one 4 (by simp only [List.getElem?_toArray, List.getElem?_cons_succ, List.getElem?_cons_zero]; rfl) (by kernel_rfl) (by rfl) (fun K hK => ?_)
      refine wp_append_bytes W.drew _ _ rfl (g + 4 ≤ ·) (.slice none 0 0) [] ys rfl (OwnB.nil _ _) w.heap.size A' cap' rfl hrb (by simp; omega) hDD ?_
      intro v1 W1 ho1 hg1 hat1
      rw [List.nil_append] at ho1
      have hg1 : W.grownBy W1 none := ⟨hg1.os, hg1.tape, hg1.output, hg1.size, fun i hi _ => hg1.block i hi (by simp [Value.ownBlock])⟩
      have hS1 : Boxed W1 w.heap.size 22 (.slice A bs.length cap) ∧ Boxed W1 (w.heap.size + 1) 39 v ∧ Boxed W1 (g + 1) 3 (.int .i64 at_) := ⟨HB1.out.kept hg1 (by simp), HB3.out.kept hg1 (by simp), HB5.out.kept hg1 (by simp)⟩
      have hz1' : W.heap.size ≤ W1.heap.size := hg1.size
      have hgA : W.grownBy (W1.alloc (.cells #[v1] 22)) none := only_alloc hg1 _
      have hoA : OwnL (W1.alloc (.cells #[v1] 22)) (g + 4 ≤ ·) v cs := HHO.out.turn none hgA (fun k e => by cases e) (fun k e => by cases e)
      have ho1A : OwnB (W1.alloc (.cells #[v1] 22)) (g + 4 ≤ ·) v1 ys := ho1.turn none (World.grownBy_alloc W1 _ none) (fun k e => by cases e)
      obtain ⟨A1, k1, rfl⟩ := ho1.shape
      refine hK.out _ _ (fun _ => hS1) ?_
      try simp only [Act.put, List.setIfInBounds_toArray, List.set_cons_zero, List.set_cons_succ]
      refine wpTill_one 5 (by simp only [List.getElem?_toArray, List.getElem?_cons_succ, List.getElem?_cons_zero]; rfl) (by kernel_rfl) (by rfl) (fun K hK => ?_)
      go_simp
      refine hK.out _ _ (fun _ => ⟨hS1.1.alloc _, hS1.2.1.alloc _, hS1.2.2.alloc _⟩) ?_
      try simp only [Act.put, List.setIfInBounds_toArray, List.set_cons_zero, List.set_cons_succ]
      refine wpTill_one 6 (by simp only [List.getElem?_toArray, List.getElem?_cons_succ, List.getElem?_cons_zero]; rfl) (by kernel_rfl) (by rfl) (fun K hK => ?_)
      refine wp_append_rows (W1.alloc (.cells #[.slice A1 ys.length k1] 22)) _ _ rfl (g + 4 ≤ ·) v cs [ys] [.slice A1 ys.length k1] rfl hoA (Rows.one ho1A) (some ⟨W1.heap.size, 0, none⟩) 1 1 rfl rfl (fun _ => ⟨_, rfl, new_cell W1 _ 22⟩) (by simp; omega) (by simp; omega) ?_
      intro v2 W3 ho3 hg3 hat3
      have hvb : ∀ j, j < g + 4 → some j ≠ v.ownBlock := fun j hj e => by have := (HHO.out.base j e.symm).1; omega
      have q1 := (hS1.1.alloc (.cells #[.slice A1 ys.length k1] 22)).kept hg3 (hvb _ (by omega))
      have q3 := (hS1.2.1.alloc (.cells #[.slice A1 ys.length k1] 22)).kept hg3 (hvb _ (by omega))
      have q5 := (hS1.2.2.alloc (.cells #[.slice A1 ys.length k1] 22)).kept hg3 (hvb _ (by omega))
      obtain ⟨A2, k2, e2⟩ := ho3.shape
      rw [List.length_append, List.length_singleton] at e2
      subst e2
      have hg4 : W.grownBy W3 v.ownBlock := World.grownBy.trans ⟨hgA.os, hgA.tape, hgA.output, hgA.size, fun i hi _ => hgA.block i hi (by simp)⟩ hg3
      refine hK.out _ _ (fun _ => ⟨q1, q3, q5⟩) ?_
      try simp only [Act.put, List.setIfInBounds_toArray, List.set_cons_zero, List.set_cons_succ]
      have r3 := q3.cell
      have f3 := q3.frozen
      have q3' := q3.set (.slice A2 (cs.length + 1) k2)
      refine wpTill_past 7 (by simp only [List.getElem?_toArray, List.getElem?_cons_succ, List.getElem?_cons_zero]; rfl) (by kernel_rfl) (by rfl) (by kernel_rfl) (fun K hK => ?_)
      go_simp
      refine hK.out _ _ ?_
      refine wpTill_done (by kernel_rfl) ?_ _
      refine NoPanic.normal ?_
      have hbase : ∀ k, v.ownBlock = some k → g + 4 ≤ k := fun k e => (HHO.out.base k e).1
      have hB3 : Below w.heap.size w W3 := HHB.out.grown hg4 HHB.out.size (fun k e => by have := hbase k e; omega)
      have hBf : Below w.heap.size w (W3.setCell ⟨w.heap.size + 1, 0, none⟩ (.slice A2 (cs.length + 1) k2)) := hB3.setCell (p := ⟨w.heap.size + 1, 0, none⟩) (by simp) _
      have hk4 : KeepsOthers W W3 := KeepsOthers.of_grownBy hg4 (fun j o e ho' => by
        obtain ⟨_, cs', hb⟩ := HHO.out.base j e
        unfold Blk at hb
        rw [hb] at ho'
        injection ho' with ho'
        rw [← ho']
        rfl)
      have g1 := grownBy_setCell' W3 (w.heap.size + 1) (.slice A2 (cs.length + 1) k2)
      have hKf := (hk4.trans (KeepsOthers.setCell _ ⟨w.heap.size + 1, 0, none⟩ (.slice A2 (cs.length + 1) k2))).same D _ HHK.out rfl
      have hof := ho3.keep (fun j hj hlt => g1.block j hlt (by simp; omega))
      have hsp := HCM.out.split_lt hlt
      rw [hys] at hsp
      rw [← hsp] at hof
      have HOF := Lib.hid hof
      have HBF := Lib.hid hBf
      have HKF := Lib.hid hKf
      have cf := q3'.cell
      clear hof hBf hKf hsp hS0 hS1 hK q1 q3 q5 hg4 hg3 hgA hoA ho1A ho1 hat1 hat3 hk4 g1 hB3 hg1 hcut hrb r3 f3 q3' ho3 c1 c3 c5
      generalize W3.setCell ⟨w.heap.size + 1, 0, none⟩ (.slice A2 (cs.length + 1) k2) = Wf at *
      go_wp2_with fail
      refine ⟨by simp, .inl ⟨_, _, rfl, run_takeDeferred HKF.out, ?_⟩⟩
      exact ⟨_, results_tmp rfl _ _ _, _, rfl, (HOF.out.turn (some D) (grownBy_putObj' Wf D _) (fun k e cs => (noCells_at HKF.out rfl).ne k e _ cs) (fun k e cs => (noCells_at HKF.out rfl).ne k e _ cs)).mono (fun k hk _ => by omega), HBF.out.trans (belowK_b (w := w) (Nat.le_refl _) Wf D _ _ (by omega) HKF.out rfl rfl)⟩
    · obtain ⟨A2, k2, e2⟩ := HHO.out.shape
      subst e2
      go_wp2_with fail
      refine ⟨by simp, .inl ⟨_, _, rfl, run_takeDeferred HHK.out, ?_⟩⟩
      have hsp := HCM.out.split_ge (by omega)
      rw [hsp]
      exact ⟨_, results_tmp rfl _ _ _, _, rfl, (HHO.out.turn (some D) (grownBy_putObj' W D _) (fun k e cs => (noCells_at HHK.out rfl).ne k e _ cs) (fun k e cs => (noCells_at HHK.out rfl).ne k e _ cs)).mono (fun k hk _ => by omega), HHB.out.trans (belowK_b (w := w) (Nat.le_refl _) W D _ _ (by omega) HHK.out rfl rfl)⟩
end Go.Proofs.Ytneieogpdjlnbaa
