/- The walk of package chunk's iterator cuts$1: behind which bytes chunks end. Conditions: those that each statement names. -/
import Derived.Test.YtneieogpdjlnbaaChA
import Derived.Test.YtneieogpdjlnbaaRng
import Derived.Shelf.Abstract
import Derived.OwnWalkIn
import Derived.TacticsInMore
import Derived.LoopNIn
import Derived.LoopIn
import Derived.Outline
set_option linter.unusedVariables false
set_option linter.unusedSimpArgs false
namespace Go.Proofs.Ytneieogpdjlnbaa
open Go Go.RowKit Go.Shelf Go.Proofs.YtneieogpdjlnbaaW.PrintWords

attribute [local go_sem] Oper.semAt_some

/-- An edge lies at the front of block g, whatever lies behind it. -/
def EdgeX (w : World) (g : Nat) (h : List Int) : Prop := ∃ (t : Nat) (rest : List Value), EdgeAt w g t h rest
/-- What the iterator's own steps turn: the edge's cells; nothing else that was there. -/
def StE (g : Nat) (w w' : World) : Prop := w.grownBy w' (some g) ∧ ∀ j, 20 ≤ j → w'.cell? ⟨g, j, none⟩ = w.cell? ⟨g, j, none⟩ ∧ w'.frozen? ⟨g, j, none⟩ = w.frozen? ⟨g, j, none⟩
theorem StE.refl (g : Nat) (w : World) : StE g w w := ⟨World.grownBy.refl w _, fun j _ => ⟨rfl, rfl⟩⟩
theorem StE.trans {g : Nat} {a b c : World} (h : StE g a b) (k : StE g b c) : StE g a c :=
  ⟨World.grownBy.trans h.1 k.1, fun j hj => ⟨(k.2 j hj).1.trans (h.2 j hj).1, (k.2 j hj).2.trans (h.2 j hj).2⟩⟩
theorem StE.drewN {g : Nat} {a b : World} (h : StE g a b) (n : Nat) : StE g a (b.drewN n) := ⟨only_drewN h.1 n, h.2⟩
theorem StE.drew {g : Nat} {a b : World} (h : StE g a b) : StE g a b.drew := ⟨only_drew h.1, h.2⟩
theorem StE.below {g : Nat} {a b : World} (hb : Below a.heap.size a b) (hg : g < a.heap.size) : StE g a b :=
  ⟨only_of_below hb _, fun j _ => ⟨hb.cell (p := ⟨g, j, none⟩) hg, hb.frozen (p := ⟨g, j, none⟩) hg⟩⟩
theorem EdgeX.lt {w : World} {g : Nat} {h : List Int} (he : EdgeX w g h) : g < w.heap.size := by
  obtain ⟨t, rest, hr⟩ := he
  exact Rol.lt hr
theorem EdgeX.drew {w : World} {g : Nat} {h : List Int} (he : EdgeX w g h) : EdgeX w.drew g h := he
theorem EdgeX.below {w w' : World} {g B : Nat} {h : List Int} (he : EdgeX w g h) (hb : Below B w w') (hg : g < B) : EdgeX w' g h := by
  obtain ⟨t, rest, hr⟩ := he
  exact ⟨t, rest, Rol.below hr hb hg⟩
theorem EdgeX.grown {w w' : World} {g : Nat} {h : List Int} {row : Option Nat} (he : EdgeX w g h) (hb : w.grownBy w' row) (hg : some g ≠ row) : EdgeX w' g h := by
  obtain ⟨t, rest, hr⟩ := he
  exact ⟨t, rest, Rol.grown hr hb hg⟩
theorem EdgeAt.st {w w' : World} {g t : Nat} {h h' : List Int} {rest : List Value} (he : EdgeAt w g t h rest) (he' : EdgeAt w' g t h' rest) (ht : w.grownBy w' (some g)) : StE g w w' := by
  refine ⟨ht, fun j hj => ?_⟩
  obtain ⟨k, rfl⟩ : ∃ k, j = 19 + (k + 1) := ⟨j - 20, by omega⟩
  rw [Rol.nth he, Rol.nth he', Rol.frozen he, Rol.frozen he']
  exact ⟨rfl, rfl⟩
theorem ends_X (g : Nat) (h : List Int) (c : Int) (w : World) (hc0 : 0 ≤ c) (hc1 : c ≤ 255) (hl : h.length ≤ 1000000) (he : EdgeX w g h) :
    Calls Try.prog 58 #[.pointer (some ⟨g, 0, none⟩), .int .u8 c] w fun e w' => e = .returned (.bool (endsB (h ++ [c]))) ∧ EdgeX w' g (h ++ [c]) ∧ StE g w w' := by
  obtain ⟨t, rest, hr⟩ := he
  refine (ends_any g t h c rest w hc0 hc1 hl hr).mono ?_
  rintro e w' ⟨rfl, hr', ht⟩
  exact ⟨rfl, ⟨t, rest, hr'⟩, EdgeAt.st hr hr' ht.1⟩

theorem run_storeVar_front {P : Program} (w : World) (g : Nat) (t ty : TypeId) (old cells : Array Value) (hg : w.heap[g]? = some (.cells old t (0, 0))) (hi : (P.info? ty).map (·.size) = some cells.size)
    (ho : cells.size ≤ old.size) (h1 : cells.all (·.oneCell') = true) :
    (storeVar ty ⟨g, 0, none⟩ (.agg cells)).run P w = .ok () (w.setRow g (cells.toList ++ old.toList.drop cells.size).toArray) := by
  have := run_storeCells_at P g 0 t cells.toList 0 old w hg (by simp; omega) (fun v hv => (Array.all_eq_true_iff_forall_mem.1 h1) v (by simpa using hv))
  simp only [Nat.zero_add, List.take_zero, List.nil_append, Array.length_toList] at this
  cases hq : P.info? ty with
  | none => simp [hq] at hi
  | some i =>
    have hs : cells.size = i.size := by simp [hq] at hi; omega
    simp [storeVar, sizeOf, typeInfo, hq, Value.cells, hs, this]
theorem edge0_store {w : World} {g : Nat} {h : List Int} (he : EdgeX w g h) :
    ∃ W', (storeVar 68 ⟨g, 0, none⟩ (.agg edge0)).run Try.prog w = .ok () W' ∧ EdgeX W' g [] ∧ StE g w W' := by
  obtain ⟨t, rest, hr⟩ := he
  have hr0 := hr
  obtain ⟨hb, ring, n, s, hs, hblk⟩ := hr
  have hrun := run_storeVar_front (P := Try.prog) w g t 68 _ edge0 hblk (by kernel_rfl) (by simp [edge0, rollCells, nums, hs.1]; omega) (by kernel_rfl)
  have hrow := setRow_heap w g _ (edge0.toList ++ (rollCells ring (n : Int) s ++ (.int .i64 h.length :: rest)).toArray.toList.drop edge0.size).toArray t (0, 0) hblk
  have e : (edge0.toList ++ (rollCells ring (n : Int) s ++ (.int .i64 h.length :: rest)).toArray.toList.drop edge0.size).toArray = (rollCells (List.replicate 16 0) ((0 : Nat) : Int) 0 ++ (.int .i64 (([] : List Int).length : Nat) :: rest)).toArray := by
    have hl : (rollCells ring (n : Int) s ++ [Value.int .i64 h.length]).length = edge0.size := by simp [edge0, rollCells, nums, hs.1]
    have h2 : (rollCells ring (n : Int) s ++ (Value.int .i64 h.length :: rest)) = (rollCells ring (n : Int) s ++ [Value.int .i64 h.length]) ++ rest := by simp
    simp only [h2]
    rw [← hl, List.drop_left]
    simp [edge0]
  rw [e] at hrow hrun
  refine ⟨_, hrun, ⟨t, rest, ?_⟩, ?_⟩
  · exact ⟨fun x hx => by simp at hx, _, 0, 0, RS_nil, hrow⟩
  · exact EdgeAt.st hr0 ⟨fun x hx => by simp at hx, _, 0, 0, RS_nil, hrow⟩ ⟨rfl, rfl, rfl, by simp, fun k _ hk => setRow_other w g k _ (fun e => hk (by simp [e]))⟩
theorem edge0_cells {w : World} {g : Nat} {h : List Int} (he : EdgeX w g h) :
    ∃ W', (storeCells ⟨g, 0, none⟩ edge0.toList).run Try.prog w = .ok () W' ∧ EdgeX W' g [] ∧ StE g w W' := by
  obtain ⟨W', hrun, h1, h2⟩ := edge0_store he
  refine ⟨W', ?_, h1, h2⟩
  obtain ⟨i, hi⟩ : ∃ i, Try.prog.info? 68 = some i := Option.isSome_iff_exists.1 (show (Try.prog.info? 68).isSome = true from by kernel_rfl)
  have hs : i.size = edge0.size := by
    have h3 : (Try.prog.info? 68).map (·.size) = some edge0.size := by kernel_rfl
    rw [hi] at h3
    simpa using h3
  simp [storeVar, sizeOf, typeInfo, hi, hs, Value.cells] at hrun
  exact hrun
theorem wp_store_edge {o : Oper} {a : Act} {K : Act → World → Prop} {Q : Exit → Act → World → Prop} (W : World) (x y : Operand) (ho : o.op = .store 68 x y) (g : Nat) (hx : a.eval x = .pointer (some ⟨g, 0, none⟩)) (hy : a.eval y = .agg edge0)
    (h : List Int) (he : EdgeX W g h) (hk : ∀ W', EdgeX W' g [] → StE g W W' → K (a.put o.dst undef) W') : o.wp Try.prog a W K Q := by
  obtain ⟨W', hrun, h1, h2⟩ := edge0_store he
  unfold Oper.wp execOp
  simp only [ho, hx, hy, Instr.storeAt, Instr.sureAddr, Sem.run_bind, Sem.run_pure, Result.andThen_ok, hrun]
  exact hk W' h1 h2
theorem step_store_edge {ops : Array Oper} {o : Oper} {a : Act} {K : Act → World → Prop} {Q : Exit → Act → World → Prop} {E : Prop} (W : World) (hgd : o.guard = none) (x y : Operand) (ho : o.op = .store 68 x y) (g : Nat) (hx : a.eval x = .pointer (some ⟨g, 0, none⟩)) (hy : a.eval y = .agg edge0)
    (h : List Int) (he : EdgeX W g h) (hk : ∀ W', EdgeX W' g [] → StE g W W' → K (a.put o.dst undef) W') : if Region.wanted o (yielded ops a.tmps) = true then Oper.wp Try.prog o a W K Q else E := by
  have hw : Region.wanted o (yielded ops a.tmps) = true := by simp [Region.wanted, hgd]
  rw [if_pos hw]
  exact wp_store_edge W x y ho g hx hy h he hk

/-! ### The iterator -/
/-- What the iterator leans on: the edge, that the bytes h came to; the bytes and where the edge lies, as it has captured them. -/
def ITh (g Bb Be : Nat) (A : Option Addr) (cap : Nat) (bs : List Int) (W : World) (h : List Int) : Prop :=
  EdgeX W g h ∧ W.cell? ⟨Bb, 0, none⟩ = some (.slice A bs.length cap) ∧ W.cell? ⟨Be, 0, none⟩ = some (.pointer (some ⟨g, 0, none⟩)) ∧ RdS W (· ≠ g) A bs
theorem ITh.step {g Bb Be : Nat} {A : Option Addr} {cap : Nat} {bs : List Int} {W W' : World} {h h' : List Int} (hi : ITh g Bb Be A cap bs W h) (hb : Bb ≠ g) (he : Be ≠ g) (hs : StE g W W') (hx : EdgeX W' g h') : ITh g Bb Be A cap bs W' h' :=
  ⟨hx, hs.1.cell hi.2.1 (by simp; exact hb), hs.1.cell hi.2.2.1 (by simp; exact he), hi.2.2.2.keep (fun k hk hlt => hs.1.block k hlt (by simp; exact hk))⟩

/-- In the statement '*e = fresh()': where the edge lies, that it lies there, what has turned. -/
def SReg (g : Nat) (w0 W : World) : Prop := (∃ hh, EdgeX W g hh) ∧ StE g w0 W
theorem SReg.below {g Be : Nat} {w0 W W' : World} (hs : W.cell? ⟨Be, 0, none⟩ = some (.pointer (some ⟨g, 0, none⟩)) ∧ SReg g w0 W) (hB : Below W.heap.size W W') : W'.cell? ⟨Be, 0, none⟩ = some (.pointer (some ⟨g, 0, none⟩)) ∧ SReg g w0 W' := by
  obtain ⟨hc, ⟨hh, he⟩, hst⟩ := hs
  exact ⟨pw_cell_below hB hc, ⟨hh, he.below hB he.lt⟩, hst.trans (StE.below hB he.lt)⟩
theorem SReg.store {g Be : Nat} {w0 W : World} (hBe : Be ≠ g) (hs : W.cell? ⟨Be, 0, none⟩ = some (.pointer (some ⟨g, 0, none⟩)) ∧ SReg g w0 W) :
    ∃ W', (storeCells ⟨g, 0, none⟩ edge0.toList).run Try.prog W = .ok () W' ∧ Hid (EdgeX W' g []) ∧ Hid (StE g w0 W') ∧ (W'.cell? ⟨Be, 0, none⟩ = some (.pointer (some ⟨g, 0, none⟩)) ∧ SReg g w0 W') := by
  obtain ⟨hc, ⟨hh, he⟩, hst⟩ := hs
  obtain ⟨W', hrun, h1, h2⟩ := edge0_cells he
  exact ⟨W', hrun, h1, hst.trans h2, h2.1.cell hc (by simp; exact hBe), ⟨_, h1⟩, hst.trans h2⟩

set_option maxRecDepth 100000 in
set_option maxHeartbeats 3200000 in
theorem cuts1_in (n l g Bb Be cap : Nat) (A : Option Addr) (h0 bs : List Int) (hlen : h0.length + bs.length ≤ 1000000) (hBb : Bb ≠ g) (hBe : Be ≠ g) (J : Nat × List (List Int) → World → Prop)
    (hst : ∀ s W W', J s W → StE g W W' → J s W')
    (hY : ∀ (k at_ : Nat) (cs : List (List Int)) (h : List Int) (W : World), J (at_, cs) W → ITh g Bb Be A cap bs W [] → Came h0 bs (k + 1) (k + 1) (cs ++ [pendB h0 bs at_ (k + 1)]) [] → at_ ≤ k → k < bs.length → YieldAt Fence.wide (n - 1) Try.prog l #[.int .i64 ((k : Int) + 1)] W fun e W' =>
      e = .returned (.bool true) ∧ J (k + 1, cs ++ [pendB h0 bs at_ (k + 1)]) W' ∧ ITh g Bb Be A cap bs W' [])
    (W : World) (hj : J (0, []) W) (hit : ITh g Bb Be A cap bs W h0) :
    CallsIn Fence.wide n Try.prog 57 #[.func (.yield l) #[] #[], .pointer (some ⟨Bb, 0, none⟩), .pointer (some ⟨Be, 0, none⟩)] W fun e W' => (∃ v, e = .returned v) ∧
      ∃ at_ cs h, J (at_, cs) W' ∧ Came h0 bs bs.length at_ cs h ∧ ITh g Bb Be A cap bs W' h := by
  have hbs := hit.2.2.2.1
  have hbb := hit.2.1
  have HBS := Lib.hid hbs
  have HIT := Lib.hid hit
  have HST := Lib.hid hst
  have HY := Lib.hid hY
  clear hbs hit hst hY
  refine callsIn_of_wp Try.func57 rfl trivial ?_ rfl
  simp only [Try.ntmps57, List.size_toArray, List.length_cons, List.length_nil, Nat.reduceAdd, Nat.reduceSub, Array.replicate_succ, Array.replicate_zero, List.push_toArray, List.append_toArray, List.nil_append, List.cons_append]
  gi_wp2
  gi_loopw [8] (fun i wr => ∃ (k at_ : Nat) (cs : List (List Int)) (h : List Int), k ≤ bs.length ∧ i = .int .i64 k ∧ Hid (Came h0 bs k at_ cs h) ∧ Hid (J (at_, cs) wr) ∧ Hid (ITh g Bb Be A cap bs wr h)) (fun i _ => bs.length - (intOf i).toNat)
  case atStart => exact ⟨0, 0, [], h0, Nat.zero_le _, rfl, Came.start _ _, hj, HIT⟩
  case round =>
    obtain ⟨k, at_, cs, h, hk, rfl, HC, HJ, HI⟩ := hrel
    by_cases hlt : k < bs.length
    · obtain ⟨ad, rfl, _, hcell⟩ := HI.out.2.2.2.2.2 (by omega)
      have hx := hcell k hlt
      obtain ⟨c0, c1⟩ := HBS.out.at_ k
      obtain ⟨c, hc⟩ : ∃ c, bs.getD k 0 = c := ⟨_, rfl⟩
      rw [hc] at hx c0 c1
      have HCC := Lib.hid hc
      have hbe := HI.out.2.2.1
      clear hcell hc hbb
      gi_wp2
      refine ⟨trivial, (fun hh => by simp [Fence.wide] at hh), ?_⟩
      refine (callsIn_wide.2 (ends_X g h c wr c0 c1 (Nat.le_trans HC.out.len hlen) HI.out.1)).mono ?_
      rintro e w2 ⟨rfl, hex2, hst2⟩
      have hj2 := HST.out _ _ _ HJ.out hst2
      have hi2 := HI.out.step hBb hBe hst2 hex2
      cases hends : endsB (h ++ [c]) with
      | false =>
        have hcame := HC.out.go hlt (by rw [HCC.out]; exact hends)
        rw [HCC.out] at hcame
        have H2 := Lib.hid hcame
        have HJ2 := Lib.hid hj2
        have HI2 := Lib.hid hi2
        clear hcame hj2 hi2 hends hex2 hst2 hx hbe
        gi_wp2
        go_roundw
        case rel => exact ⟨k + 1, at_, cs, h ++ [c], by omega, by go_num, H2, HJ2, HI2⟩
        case measure => simp [intOf]; omega
      | true =>
        have hcame := HC.out.cut hlt (by rw [HCC.out]; exact hends)
        have hpend := HC.out.pend hlt
        rw [hpend] at hcame
        have H2 := Lib.hid hcame
        have HJ2 := Lib.hid hj2
        have HI2 := Lib.hid hi2
        have hbe2 := hi2.2.2.1
        have hatk := HC.out.1
        clear hcame hj2 hi2 hends hex2 hst2 hx hbe hpend
        gi_wp2
        refine wpIn_wide.2 ?_
        have hS0 : w2.drew.cell? ⟨Be, 0, none⟩ = some (.pointer (some ⟨g, 0, none⟩)) ∧ SReg g w2 w2.drew := ⟨hbe2, ⟨_, HI2.out.1⟩, (StE.refl g w2).drew⟩
        have HS0 := Lib.hid hS0
        clear hS0
        go_region_held3 (fun W => W.cell? ⟨Be, 0, none⟩ = some (.pointer (some ⟨g, 0, none⟩)) ∧ SReg g w2 W) (first | assumption | exact HS0.out)
          (first
            | (go_at_call 52; refine (fresh_any _).mono ?_; rintro e w3 ⟨rfl, hB3⟩; have hS3 := SReg.below (by assumption) hB3; obtain ⟨W4, hrun4, hX4, hT4, hS4⟩ := SReg.store hBe hS3; clear hB3))
        have hj4 := HST.out _ _ _ HJ2.out hT4.out
        have hi4 := HI2.out.step hBb hBe hT4.out hX4.out
        obtain ⟨fn, tmps, assign, body, hy, hR⟩ := HY.out k at_ cs h W4 hj4 hi4 H2.out hatk hlt
        have HR := Lib.hid hR
        clear hR hj4 hi4 hS4 hS3 hrun4 hbe2
        gi_wp2
        refine ⟨(fun hh => by simp [Fence.wide] at hh), ?_⟩
        refine HR.out.mono ?_
        rintro e W5 ⟨rfl, hj5, hi5⟩
        have HJ5 := Lib.hid hj5
        have HI5 := Lib.hid hi5
        clear hj5 hi5 hy
        gi_wp2
        go_roundw
        case rel => exact ⟨k + 1, k + 1, cs ++ [pendB h0 bs at_ (k + 1)], [], by omega, by go_num, H2, HJ5, HI5⟩
        case measure => simp [intOf]; omega
    · gi_wp2
      go_end0
      obtain rfl : k = bs.length := by omega
      exact ⟨⟨_, rfl⟩, at_, cs, h, HJ.out, HC.out, HI.out⟩
end Go.Proofs.Ytneieogpdjlnbaa
