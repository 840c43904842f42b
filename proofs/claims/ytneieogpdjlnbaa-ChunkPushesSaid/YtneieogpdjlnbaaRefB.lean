/- The walks of the reference's Cutter: End, Push. Conditions: those that each statement names. -/
import Derived.Test.YtneieogpdjlnbaaRefA
import Derived.Test.YtneieogpdjlnbaaPshA
set_option linter.unusedVariables false
set_option linter.unusedSimpArgs false
namespace Go.Proofs.Ytneieogpdjlnbaa
open Go Go.RowKit Go.Proofs.YtneieogpdjlnbaaW.PrintWords

set_option maxHeartbeats 800000 in
theorem rend_any (g : Nat) (bv : Value) (w : World) (hb : Blk w g 65 #[bv, .bool false]) :
    Calls Try.prog 49 #[.pointer (some ⟨g, 0, none⟩)] w fun e w' => e = .returned (.tuple #[bv, .int .i64 0]) ∧ Blk w' g 65 #[.slice none 0 0, .bool true] ∧ Turned w w' g := by
  have c0 : w.cell? ⟨g, 0, none⟩ = some bv := hb.cell 0
  have c1 : w.cell? ⟨g, 1, none⟩ = some (.bool false) := hb.cell 1
  have f1 := hb.frozen 1
  have h1 : Blk (w.setCell ⟨g, 1, none⟩ (.bool true)) g 65 #[bv, .bool true] := hb.set_ 1 _
  have c0' : (w.setCell ⟨g, 1, none⟩ (.bool true)).cell? ⟨g, 0, none⟩ = some bv := h1.cell 0
  have f0' := h1.frozen 0
  have h2 : Blk ((w.setCell ⟨g, 1, none⟩ (.bool true)).setCell ⟨g, 0, none⟩ (.slice none 0 0)) g 65 #[.slice none 0 0, .bool true] := h1.set_ 0 _
  have H2 := Lib.hid h2
  have HT : Hid (Turned w ((w.setCell ⟨g, 1, none⟩ (.bool true)).setCell ⟨g, 0, none⟩ (.slice none 0 0)) g) := (Turned.setCell w g 1 _).trans (Turned.setCell _ g 0 _)
  clear hb h1 h2
  go_enter Try.func49, Try.ntmps49
  go_wp2_with fail
  refine bodyPost_ret (results_list (rs := [.tmp 2, .tmp 3]) rfl (by simp) (.tmp (.tmp .nil))) rfl ?_
  exact ⟨rfl, H2.out, HT.out⟩
set_option maxHeartbeats 400000 in
theorem rend_over (g : Nat) (bv : Value) (w : World) (hb : Blk w g 65 #[bv, .bool true]) :
    Calls Try.prog 49 #[.pointer (some ⟨g, 0, none⟩)] w fun e w' => e = .returned (.tuple #[.slice none 0 0, .int .i64 9]) ∧ w = w' := by
  have c1 : w.cell? ⟨g, 1, none⟩ = some (.bool true) := hb.cell 1
  clear hb
  go_enter Try.func49, Try.ntmps49
  go_wp2_with fail
  refine bodyPost_ret (results_list (rs := [.tmp 2, .tmp 3]) rfl (by simp) (.tmp (.tmp .nil))) rfl ⟨rfl, rfl⟩
set_option maxHeartbeats 400000 in
theorem rpush_over (g : Nat) (bv : Value) (A : Option Addr) (n c : Nat) (w : World) (hb : Blk w g 65 #[bv, .bool true]) :
    Calls Try.prog 50 #[.pointer (some ⟨g, 0, none⟩), .slice A n c] w fun e w' => e = .returned (.tuple #[.slice none 0 0, .int .i64 9]) ∧ w = w' := by
  have c1 : w.cell? ⟨g, 1, none⟩ = some (.bool true) := hb.cell 1
  clear hb
  go_enter Try.func50, Try.ntmps50
  go_wp2_with fail
  refine bodyPost_ret (results_list (rs := [.tmp 4, .tmp 5]) rfl (by simp) (.tmp (.tmp .nil))) rfl ⟨rfl, rfl⟩

theorem RdS.drop {w : World} {S : Nat → Prop} {A : Option Addr} {xs : List Int} {c : Nat} (h : RdS w S A xs) (k : Nat) (hc : xs.length ≤ c) : RdS w S (if c = k then A else A.map (·.add k)) (xs.drop k) :=
  ⟨h.1.drop k, by have := h.2.1; rw [List.length_drop]; omega, fun hp => by
    rw [List.length_drop] at hp
    obtain ⟨ad, rfl, hs, hcell⟩ := h.2.2 (by omega)
    rw [if_neg (by omega)]
    refine ⟨ad.add k, rfl, by rw [block_of_add]; exact hs, fun j hj => ?_⟩
    rw [List.length_drop] at hj
    rw [add_of_add, hcell (k + j) (by omega)]
    simp [List.getD_eq_getElem?_getD]⟩
theorem cutDS (A : Option Addr) (cap : Nat) (xs ys : List Int) (j : Int) (h0 : 0 ≤ j) (hm : j ≤ xs.length) (hc : xs.length ≤ cap) (hy : xs.drop j.toNat = ys) :
    ∃ (A' : Option Addr) (cap' : Nat), (∀ W : World, (Instr.slice 22 (.slice A xs.length cap) (some (.int .i64 j)) none none).run Try.prog W = .ok (.slice A' ys.length cap') W) ∧ ys.length ≤ cap' ∧ ∀ (w : World) (S : Nat → Prop), RdS w S A xs → RdS w S A' ys := by
  obtain ⟨i, hi, hsz⟩ := info22
  subst hy
  refine ⟨if cap = j.toNat then A else A.map (·.add j.toNat), cap - j.toNat, fun W => ?_, ?_, fun w S hr => hr.drop (c := cap) j.toNat hc⟩
  · rw [cut_from (P := Try.prog) 22 5 .i64 Try.underlying22 hi 1 hsz A xs.length cap j h0 hm W]
    simp only [Nat.mul_one, List.length_drop]
  · rw [List.length_drop]; omega

/-- What the reference's Push leaves. -/
def RPushR (w : World) (g : Nat) (all : List Int) (e : Ending) (w' : World) : Prop := ∃ (v : Value) (A' : Option Addr) (c' : Nat), e = .returned (.tuple #[v, .int .i64 0]) ∧ OwnL w' (w.heap.size ≤ ·) v (cutRun [] all).1 ∧
  Blk w' g 65 #[.slice A' (cutRun [] all).2.length c', .bool false] ∧ (cutRun [] all).2.length ≤ c' ∧ RdS w' (w.heap.size ≤ ·) A' (cutRun [] all).2 ∧ Far w w' (· = g)

set_option maxRecDepth 100000 in
set_option maxHeartbeats 3200000 in
theorem rpush_any (g : Nat) (A0 A : Option Addr) (c0 cap : Nat) (xs ys : List Int) (w : World) (hb : Blk w g 65 #[.slice A0 xs.length c0, .bool false]) (hx : RdB w w.heap.size A0 xs) (hy : RdB w w.heap.size A ys) (hl : xs.length + ys.length ≤ 900000) (all : List Int) (hall : xs ++ ys = all) :
    Calls Try.prog 50 #[.pointer (some ⟨g, 0, none⟩), .slice A ys.length cap] w fun e w' => RPushR w g all e w' := by
  have hgl := hb.lt
  have e0 : w.cell? ⟨g, 1, none⟩ = some (.bool false) := hb.cell 1
  have hb0 : Blk (w.alloc (.cells #[] 5)) g 65 #[.slice A0 xs.length c0, .bool false] := hb.alloc _
  have e1 : (w.alloc (.cells #[] 5)).cell? ⟨g, 0, none⟩ = some (.slice A0 xs.length c0) := hb0.cell 0
  have hB0 : Below w.heap.size w (w.alloc (.cells #[] 5)) := (Below.refl _ _).alloc (Nat.le_refl _) _
  have ho0 : OwnB (w.alloc (.cells #[] 5)) (w.heap.size ≤ ·) (.slice (some ⟨w.heap.size, 0, none⟩) 0 0) [] := ⟨fun x hx => by simp at hx, .inr ⟨w.heap.size, [], rfl, Nat.le_refl _, fun x hx => by simp at hx, by simp, Blk.new w 5 #[]⟩⟩
  have HX0 := Lib.hid (hx.below hB0)
  have HY := Lib.hid hy
  have HB0 := Lib.hid hB0
  have HO0 := Lib.hid ho0
  have HG0 := Lib.hid hb0
  have HALL := Lib.hid hall
  clear hb hb0 hB0 ho0 hx hy hall
  go_enter Try.func50, Try.ntmps50
  go_wp2_with (first
    | (at_builtin; refine wpList_append_bytes (w.alloc (.cells #[] 5)) rfl _ _ rfl (w.heap.size ≤ ·) (.slice (some ⟨w.heap.size, 0, none⟩) 0 0) [] xs rfl HO0.out _ A0 c0 rfl HX0.out (by simp; omega) (by simp) ?_; intro v2 w2 ho2 hg2 hat2; rw [List.nil_append] at ho2; have HB2 := Lib.hid (HB0.out.grown hg2 (by simp) (fun j e => HO0.out.base j e)); have hs2 := hg2.size; have HO2 := Lib.hid ho2; have HY2 := Lib.hid (HY.out.below HB2.out); have HG2 := Lib.hid (HG0.out.grown hg2 (by simp [Value.ownBlock]; omega)); clear ho2 hg2 hat2)
    | (at_builtin; refine wpList_append_bytes w2 rfl _ _ rfl (w.heap.size ≤ ·) v2 xs ys rfl HO2.out _ A cap rfl HY2.out (by omega) HB2.out.size ?_; intro v3 w3 ho3 hg3 hat3; have HB3 := Lib.hid (HB2.out.grown hg3 HB2.out.size (fun j e => HO2.out.base j e)); obtain ⟨A3, c3, e3, hc3, hr3⟩ := ho3.rd (by simp; omega); subst e3; have HR3 := Lib.hid hr3; have hb3 := HG2.out.grown hg3 (fun e => by have := HO2.out.base g e.symm; omega); have f3 := hb3.frozen 0; have e3 : w3.cell? ⟨g, 0, none⟩ = some (.slice A0 xs.length c0) := hb3.cell 0; have HG4 : Hid (Blk (w3.setCell ⟨g, 0, none⟩ (.slice A3 (xs ++ ys).length c3)) g 65 #[.slice A3 (xs ++ ys).length c3, .bool false]) := hb3.set_ 0 _; rw [List.length_append] at HG4; rw [List.length_append]; clear ho3 hr3 hb3 hg3 hat3))
  have HR4 : Hid (RdS (w3.setCell ⟨g, 0, none⟩ (.slice A3 (xs.length + ys.length) c3)) (w.heap.size ≤ ·) A3 (xs ++ ys)) := HR3.out.keep (fun k hk hlt => Below.heap_setCell _ _ _ k (by simp; omega))
  have HF4 : Hid (Far w (w3.setCell ⟨g, 0, none⟩ (.slice A3 (xs.length + ys.length) c3)) (· = g)) := (Far.of_below HB3.out).grown (grownBy_setCell' w3 g _) (fun k e => by cases e; exact .inl rfl)
  have hall := HALL.out
  have hlen : xs.length + ys.length = all.length := by rw [← hall]; simp
  rw [hall] at HR4
  rw [hlen] at HR4 HF4 HG4 hl ⊢
  rw [hall] at hc3
  clear e0 e1 e3 f3 HX0 HY HB0 HO0 HG0 HB2 HO2 HY2 HG2 HB3 HR3 hs2 hall hlen HALL
  generalize w3.setCell ⟨g, 0, none⟩ (.slice A3 all.length c3) = w4 at *
  obtain ⟨D, hD⟩ : ∃ D, w4.heap.size = D := ⟨_, rfl⟩
  have HD := Lib.hid hD
  have hnD : w.heap.size ≤ D := by rw [← hD]; exact HF4.out.size
  have HR4' : Hid (RdS w4 (fun k => w.heap.size ≤ k ∧ k < D) A3 all) := HR4.out.mono (fun k hk hlt => ⟨hk, by rw [← hD]; exact hlt⟩)
  clear HR4 hD
  go_loopw [6] (fun v6 wr => ∃ (ps : List (List Int)) (rs : List Int) (A' : Option Addr) (c' : Nat) (o : Value), o = v6 ∧ rs.length ≤ c' ∧ ps.length + rs.length ≤ all.length ∧ Hid (Blk wr g 65 #[.slice A' rs.length c', .bool false]) ∧ Hid (RdS wr (fun k => w.heap.size ≤ k ∧ k < D) A' rs) ∧ Hid (OwnL wr (D ≤ ·) o ps) ∧ Hid (D ≤ wr.heap.size) ∧
      Hid (cutRun [] all = (ps ++ (cutRun [] rs).1, (cutRun [] rs).2)) ∧ Hid (Far w wr (· = g)))
    (fun _ wr => match wr.cell? ⟨g, 0, none⟩ with | some (.slice _ n _) => n | _ => 0)
  case atStart => exact ⟨[], all, A3, c3, _, rfl, hc3, by simp, HG4, HR4', OwnL.nil _ _, by rw [← HD.out]; exact Nat.le_refl _, rfl, HF4⟩
  case round =>
    obtain ⟨ps, rs, A', c', o, he, hc', hps, HG, HRR, HO, HDw, HC, HF⟩ := hrel
    subst he
    have c0 : wr.cell? ⟨g, 0, none⟩ = some (.slice A' rs.length c') := HG.out.cell 0
    have HN := Lib.hid (next_any _ c' A' rs wr HRR.out.rdB hc' (by omega))
    have HM : Hid ((match wr.cell? ⟨g, 0, none⟩ with | some (.slice _ n _) => n | _ => 0) = rs.length) := by rw [c0]; rfl
    go_wp2_with fail
    refine HN.out.mono ?_
    rintro e wr' ⟨⟨m, is, rfl, hnb⟩, rfl⟩
    cases is with
    | false =>
      obtain ⟨hm, hcr⟩ := hnb.none
      have hC := HC.out
      rw [hcr, List.append_nil] at hC
      have HC' := Lib.hid hC
      clear hC hcr hnb HN HC
      go_wp2_with fail
      refine bodyPost_ret (results_list (rs := [.tmp 4, .tmp 5]) rfl (by simp) (.tmp (.tmp .nil))) rfl ?_
      refine ⟨o, A', c', rfl, ?_, ?_, ?_, ?_, HF.out⟩
      · rw [HC'.out]; exact HO.out.mono (fun k hk _ => by omega)
      · rw [HC'.out]; exact HG.out
      · rw [HC'.out]; exact hc'
      · rw [HC'.out]; exact HRR.out.mono (fun k hk _ => hk.1)
    | true =>
      obtain ⟨hm, hcr⟩ := hnb.cut
      have hml := hnb.1
      obtain ⟨zs, hzs⟩ : ∃ zs, rs.take m = zs := ⟨_, rfl⟩
      obtain ⟨qs, hqs⟩ : ∃ qs, rs.drop m = qs := ⟨_, rfl⟩
      obtain ⟨hcutT, hclT, hcrT⟩ := cutT A' c' rs zs (m : Int) (by omega) (by omega) hc' (by rw [← hzs]; congr 1)
      obtain ⟨A5, c5, hcutD, hclD, hcrD⟩ := cutDS A' c' rs qs (m : Int) (by omega) (by omega) hc' (by rw [← hqs]; congr 1)
      have hyl : zs.length = m := by rw [← hzs, List.length_take]; omega
      have hql : qs.length + m = rs.length := by rw [← hqs, List.length_drop]; omega
      rw [hzs, hqs] at hcr
      have hC := HC.out
      rw [hcr] at hC
      have HC' := Lib.hid hC
      have hgs := HF.out.size
      have HRT := Lib.hid (hcrT _ _ HRR.out.rdB)
      have HRD := Lib.hid (hcrD _ _ HRR.out)
      have HYL := Lib.hid hyl
      have HQL := Lib.hid hql
      have hsy : zs.length ≤ 1000000 := by omega
      have hb1 : Blk (wr.alloc (.cells #[] 5)) g 65 #[.slice A' rs.length c', .bool false] := HG.out.alloc _
      have c0a : (wr.alloc (.cells #[] 5)).cell? ⟨g, 0, none⟩ = some (.slice A' rs.length c') := hb1.cell 0
      have hdw := HDw.out
      have ho0 : OwnB (wr.alloc (.cells #[] 5)) (D ≤ ·) (.slice (some ⟨wr.heap.size, 0, none⟩) 0 0) [] := ⟨fun x hx => by simp at hx, .inr ⟨wr.heap.size, [], rfl, HDw.out, fun x hx => by simp at hx, by simp, Blk.new wr 5 #[]⟩⟩
      have HO0 := Lib.hid ho0
      have HRT1 := Lib.hid (HRT.out.below ((Below.refl wr.heap.size wr).alloc (Nat.le_refl _) (.cells #[] 5)))
      clear hcrT hcrD hcr hzs hqs hnb HN hyl hql hC HC ho0 hb1
      go_wp2_with (first
        | (at_builtin; refine wpList_append_bytes (wr.alloc (.cells #[] 5)) rfl _ _ rfl (D ≤ ·) (.slice (some ⟨wr.heap.size, 0, none⟩) 0 0) [] zs rfl HO0.out _ A' c' rfl HRT1.out (by simp; omega) (by simp; omega) ?_; intro v2 w2 ho2 hg2 hat2; rw [List.nil_append] at ho2; obtain ⟨A6, c6, e6⟩ := ho2.shape; subst e6; have hbb : Below wr.heap.size wr w2 := ((Below.refl _ _).alloc (Nat.le_refl _) (.cells #[] 5)).grown hg2 (by simp) (fun j e => by simp [Value.ownBlock] at e; omega); have HO2 := Lib.hid ho2; have HOL2 := Lib.hid (HO.out.keep (fun j hj hlt => hbb.block j hlt)); have HBB := Lib.hid hbb; have hs2 := hbb.size; have hg2' : Blk w2 g 65 #[.slice A' rs.length c', .bool false] := (hbb.block g HG.out.lt).trans HG.out; have c02 : w2.cell? ⟨g, 0, none⟩ = some (.slice A' rs.length c') := hg2'.cell 0; have HG2 := Lib.hid hg2'; clear ho2 hbb hg2 hat2 hg2')
        | (at_builtin; refine wpList_append_rows (w2.alloc (.cells #[.slice A6 zs.length c6] 22)) rfl _ _ rfl (D ≤ ·) o ps [zs] [.slice A6 zs.length c6] rfl (HOL2.out.turn none (World.grownBy_alloc w2 _ none) (fun k e => by cases e) (fun k e => by cases e)) (Rows.one (HO2.out.turn none (World.grownBy_alloc w2 _ none) (fun k e => by cases e))) (some ⟨w2.heap.size, 0, none⟩) 1 1 rfl rfl (fun _ => ⟨_, rfl, new_cell w2 _ 22⟩) (by simp; omega) (by simp; omega) ?_; intro v4 w5 ho4 hg4 hat4; have HG4' := Lib.hid (World.grownBy.trans (World.grownBy_alloc w2 (.cells #[.slice A6 zs.length c6] 22) o.ownBlock) hg4); have HO4 := Lib.hid ho4; have hgo : Blk w5 g 65 #[.slice A' rs.length c', .bool false] := HG2.out.grown HG4'.out (fun e => by have := (HOL2.out.base g e.symm).1; omega); have c05 : w5.cell? ⟨g, 0, none⟩ = some (.slice A' rs.length c') := hgo.cell 0; have f05 := hgo.frozen 0; have HG5 : Hid (Blk (w5.setCell ⟨g, 0, none⟩ (.slice A5 qs.length c5)) g 65 #[.slice A5 qs.length c5, .bool false]) := hgo.set_ 0 _; clear ho4 hg4 hat4 hgo))
      go_roundw
      case rel =>
        have hql := HQL.out
        have hC := HC'.out
        have hob : ∀ k, o.ownBlock = some k → D ≤ k := fun k e => (HOL2.out.base k e).1
        have hs5 := HG4'.out.size
        refine ⟨ps ++ [zs], qs, A5, c5, _, rfl, hclD, by simp; omega, HG5.out, ?_, ?_, ?_, ?_, ?_⟩
        · exact ((HRD.out.keep (fun k hk hlt => HBB.out.block k hlt)).keep (fun k hk hlt => HG4'.out.block k hlt (fun e => by have := hob k e.symm; omega))).keep (fun k hk hlt => Below.heap_setCell _ _ _ k (by simp; omega))
        · exact HO4.out.keep (fun j hj hlt => Below.heap_setCell _ _ _ j (by simp; omega))
        · show D ≤ _
          rw [World.size_setCell]
          omega
        · show cutRun [] all = _
          rw [hC]
          simp
        · exact ((HF.out.grown (grown_of_below HBB.out none) (fun k e => by cases e)).grown HG4'.out (fun k e => .inr (by have := hob k e; omega))).grown (grownBy_setCell' w5 g _) (fun k e => by cases e; exact .inl rfl)
      case measure =>
        have hql := HQL.out
        have c1 := HG5.out.cell 0
        rw [HM.out, c1]
        show qs.length < rs.length
        omega
end Go.Proofs.Ytneieogpdjlnbaa
