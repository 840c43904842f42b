/- The walk of layer 6's law ChunkEdits: it returns true and writes nothing that was there. Conditions: none beyond how the arguments lie in memory. -/
import Derived.Test.YtneieogpdjlnbaaLawsL
import Derived.Test.YtneieogpdjlnbaaPlainF
set_option linter.unusedVariables false
set_option linter.unusedSimpArgs false
namespace Go.Proofs.Ytneieogpdjlnbaa
open Go Go.RowKit Go.Proofs.YtneieogpdjlnbaaW.PrintWords

theorem RdI.lens {w : World} {A : Option Addr} {bs : List Int} (h : RdI w A (lensB bs)) : RdI w A ((splitB bs).map (fun l => (l.length : Int))) := h
theorem tailsL_drop (ls : List (List Int)) (most k : Nat) (hk : k < ls.length) : tailsL (ls.drop k) most = if (ls.drop (k + 1)).flatten.length ≤ most then ((ls.drop (k + 1)).flatten.length : Int) :: tailsL (ls.drop (k + 1)) most else tailsL (ls.drop (k + 1)) most := by
  rw [List.drop_eq_getElem_cons hk, tailsL_cons]
theorem flat_drop (ls : List (List Int)) (k : Nat) (hk : k < ls.length) : (ls.drop k).flatten.length = (ls.getD k []).length + (ls.drop (k + 1)).flatten.length := by
  have e : ls.getD k [] = ls[k] := by simp [List.getD_eq_getElem?_getD, List.getElem?_eq_getElem hk]
  rw [List.drop_eq_getElem_cons hk, List.flatten_cons, List.length_append, e]

set_option maxHeartbeats 1600000 in
theorem tails_any (c : Nat) (A : Option Addr) (ls : List (List Int)) (most : Nat) (w : World) (hr : RdI w A (ls.map (fun l => (l.length : Int)))) (hl : ls.flatten.length ≤ 1000000) (hn : ls.length ≤ 1000000) (hm : most ≤ 1000000) :
    Calls Try.prog 51 #[.slice A ls.length c, .int .i64 (ls.flatten.length : Nat), .int .i64 most] w fun e w' => ∃ v, e = .returned v ∧ OwnI w' w.heap.size v (tailsL ls most) ∧ Below w.heap.size w w' := by
  have HR := Lib.hid hr
  clear hr
  have htl := tailsL_len ls most
  obtain ⟨tot, htot⟩ : ∃ tot, ls.flatten.length = tot := ⟨_, rfl⟩
  rw [htot] at hl ⊢
  have HT := Lib.hid htot
  clear htot
  go_enter Try.func51, Try.ntmps51
  go_wp2_with fail
  go_loopw [1, 7, 8] (fun v1 v7 v8 wr => ∃ (k al : Nat) (o : Value) (ps : List Int), o = v7 ∧ k ≤ ls.length ∧ v8 = .int .i64 k ∧ v1 = .int .i64 al ∧ Hid (al = (ls.drop k).flatten.length) ∧ al ≤ 1000000 ∧ Hid (OwnI wr w.heap.size o ps) ∧ Hid (tailsL ls most = ps ++ tailsL (ls.drop k) most) ∧ Hid (Below w.heap.size w wr)) (fun _ _ v8 _ => ls.length - (intOf v8).toNat)
  case atStart => exact ⟨0, tot, _, [], rfl, by omega, rfl, rfl, by show tot = _; rw [← HT.out]; rfl, hl, OwnI.nil _ _, rfl, Below.refl _ _⟩
  case round =>
    obtain ⟨k, al, o, ps, he, hk, rfl, rfl, HA, hal, HO, HS, HB⟩ := hrel
    subst he
    by_cases hlt : k < ls.length
    · obtain ⟨ad, rfl, hcell⟩ := (HR.out.below HB.out) k (by rw [List.length_map]; exact hlt)
      rw [show (ls.map (fun l => (l.length : Int))).getD k 0 = ((ls.getD k []).length : Int) by simp [List.getD_eq_getElem?_getD, List.getElem?_eq_getElem hlt]] at hcell
      have hfd := flat_drop ls k hlt
      have htd := tailsL_drop ls most k hlt
      obtain ⟨x, hx⟩ : ∃ x, (ls.getD k []).length = x := ⟨_, rfl⟩
      obtain ⟨al', hal'⟩ : ∃ al', (ls.drop (k + 1)).flatten.length = al' := ⟨_, rfl⟩
      rw [hx] at hcell
      rw [← HA.out, hx, hal'] at hfd
      rw [hal'] at htd
      have HX := Lib.hid hal'
      have hsub : (al : Int) - (x : Int) = (al' : Int) := by omega
      have hale : al' ≤ 1000000 := by omega
      clear hfd
      have hps : ps.length ≤ 1000000 := by
        have := congrArg List.length HS.out
        rw [List.length_append] at this
        omega
      clear hx hal'
      by_cases hm' : al' ≤ most
      · have hd : decide ((al' : Int) ≤ (most : Int)) = true := by simp; omega
        rw [if_pos hm'] at htd
        have HTD := Lib.hid htd
        clear htd
        go_wp2_with (at_builtin; refine print_append_num w.heap.size rfl _ _ 42 3 .i64 8 rfl under42 info3b (by decide) o ps (al' : Int) rfl rfl HO.out HB.out HB.out.size (by omega) ?_; intro v2 w2 ho2 hB2 hg2 hat2; have HO2 := Lib.hid ho2; have HB2 := Lib.hid hB2; clear ho2 hB2 hg2 hat2)
        go_roundw
        case rel => exact ⟨k + 1, al', _, ps ++ [(al' : Int)], rfl, by omega, by go_num, by first | rfl | go_num, HX.out.symm, by omega, HO2.out, by show _ = _; rw [HS.out, HTD.out]; simp, HB2.out⟩
        case measure => simp [intOf]; omega
      · have hd : decide ((al' : Int) ≤ (most : Int)) = false := by simp; omega
        rw [if_neg hm'] at htd
        have HTD := Lib.hid htd
        clear htd
        go_wp2_with fail
        go_roundw
        case rel => exact ⟨k + 1, al', _, ps, rfl, by omega, by go_num, by first | rfl | go_num, HX.out.symm, by omega, HO.out, by show _ = _; rw [HS.out, HTD.out], HB.out⟩
        case measure => simp [intOf]; omega
    · go_wp2_with fail
      go_ret
      have := HS.out
      rw [List.drop_of_length_le (by omega), show tailsL [] most = [] from rfl, List.append_nil] at this
      exact ⟨_, rfl, by rw [this]; exact HO.out, HB.out⟩

set_option maxRecDepth 100000 in
set_option maxHeartbeats 1600000 in
theorem edits_walk (A1 A2 A3 A4 : Option Addr) (k1 k2 k3 k4 : Nat) (ah on ot bh : List Int) (w : World) (hr1 : RdB w w.heap.size A1 ah) (hr2 : RdB w w.heap.size A2 on) (hr3 : RdB w w.heap.size A3 ot) (hr4 : RdB w w.heap.size A4 bh)
    (l1 : ah.length ≤ 4000) (l2 : on.length ≤ 1000) (l3 : ot.length ≤ 1000) (l4 : bh.length ≤ 4000) :
    Calls Try.prog 18 #[.slice A1 ah.length k1, .slice A2 on.length k2, .slice A3 ot.length k3, .slice A4 bh.length k4] w fun e w' => e = .returned (.bool true) ∧ Below w.heap.size w w' := by
  have d1 : decide ((4000 : Int) < (ah.length : Int)) = false := by simp; omega
  have d2 : decide ((1000 : Int) < (on.length : Int)) = false := by simp; omega
  have d3 : decide ((1000 : Int) < (ot.length : Int)) = false := by simp; omega
  have d4 : decide ((4000 : Int) < (bh.length : Int)) = false := by simp; omega
  have H1 := Lib.hid hr1
  have H2 := Lib.hid hr2
  have H3 := Lib.hid hr3
  have H4 := Lib.hid hr4
  clear hr1 hr2 hr3 hr4
  go_enter Try.func18, Try.ntmps18
  go_wp2_with fail
  refine (awake6_any w).mono ?_
  rintro e w1 ⟨rfl, hB1⟩
  have HB1 := Lib.hid hB1
  clear hB1
  go_wp2_with fail
  clear d1 d2 d3 d4
  refine (copy_any w1.heap.size k1 A1 ah w1 (H1.out.up HB1.out)).mono ?_
  rintro e w2 ⟨⟨v2, rfl, ho2⟩, hB2⟩
  have hs2 := hB2.size
  have HO2 := Lib.hid ho2
  have HB2 := Lib.hid (HB1.out.trans (hB2.mono HB1.out.size))
  have HR2 := Lib.hid (H2.out.up HB2.out)
  clear ho2 hB2
  go_wp2_with (first
    | (at_builtin; refine wpList_append_bytes w2 rfl _ _ rfl (w1.heap.size ≤ ·) v2 ah on rfl HO2.out _ A2 k2 rfl HR2.out (by omega) hs2 ?_; intro v3 w3 ho3 hg3 hat3; have HB3 := Lib.hid (HB2.out.grown hg3 HB2.out.size (fun j e => Nat.le_trans HB1.out.size (HO2.out.base j e))); have hs3 : w1.heap.size ≤ w3.heap.size := Nat.le_trans hs2 hg3.size; have HO3 := Lib.hid ho3; have HR3 := Lib.hid (H4.out.up HB3.out); clear ho3 hg3 hat3)
    | (at_builtin; refine wpList_append_bytes w3 rfl _ _ rfl (w1.heap.size ≤ ·) v3 (ah ++ on) bh rfl HO3.out _ A4 k4 rfl HR3.out (by simp; omega) hs3 ?_; intro v4 w4 ho4 hg4 hat4; have HB4 := Lib.hid (HB3.out.grown hg4 HB3.out.size (fun j e => Nat.le_trans HB1.out.size (HO3.out.base j e))); have HO4 := Lib.hid ho4; clear ho4 hg4 hat4))
  clear HO2 HO3 HR2 HR3 HB2 HB3 hs2 hs3
  refine (copy_any w4.heap.size k1 A1 ah w4 (H1.out.up HB4.out)).mono ?_
  rintro e w5 ⟨⟨v5, rfl, ho5⟩, hB5⟩
  have hs5 := hB5.size
  have HO5 := Lib.hid ho5
  have HB5 := Lib.hid (HB4.out.trans (hB5.mono HB4.out.size))
  have HR5 := Lib.hid (H3.out.up HB5.out)
  have HW5 := Lib.hid hB5
  clear ho5 hB5
  go_wp2_with (first
    | (at_builtin; refine wpList_append_bytes w5 rfl _ _ rfl (w4.heap.size ≤ ·) v5 ah ot rfl HO5.out _ A3 k3 rfl HR5.out (by omega) hs5 ?_; intro v6 w6 ho6 hg6 hat6; have HB6 := Lib.hid (HB5.out.grown hg6 HB5.out.size (fun j e => Nat.le_trans HB4.out.size (HO5.out.base j e))); have HW6 := Lib.hid (HW5.out.grown hg6 hs5 (fun j e => HO5.out.base j e)); have hs6 : w4.heap.size ≤ w6.heap.size := Nat.le_trans hs5 hg6.size; have HO6 := Lib.hid ho6; have HR6 := Lib.hid (H4.out.up HB6.out); clear ho6 hg6 hat6)
    | (at_builtin; refine wpList_append_bytes w6 rfl _ _ rfl (w4.heap.size ≤ ·) v6 (ah ++ ot) bh rfl HO6.out _ A4 k4 rfl HR6.out (by simp; omega) hs6 ?_; intro v7 w7 ho7 hg7 hat7; have HB7 := Lib.hid (HB6.out.grown hg7 HB6.out.size (fun j e => Nat.le_trans HB4.out.size (HO6.out.base j e))); have HW7 := Lib.hid (HW6.out.grown hg7 hs6 (fun j e => HO6.out.base j e)); have HO7 := Lib.hid ho7; clear ho7 hg7 hat7))
  have hoa := HO4.out.keep (w' := w7) (fun j hj hlt => HW7.out.block j hlt)
  obtain ⟨Aa, ca, rfl, hca, hra⟩ := hoa.rd (by simp; omega)
  obtain ⟨Ab, cb, rfl, hcb, hrb⟩ := HO7.out.rd (by simp; omega)
  have hla : (ah ++ on ++ bh).length ≤ 9000 := by simp; omega
  have hlb : (ah ++ ot ++ bh).length ≤ 9000 := by simp; omega
  obtain ⟨a, ha⟩ : ∃ a, ah ++ on ++ bh = a := ⟨_, rfl⟩
  obtain ⟨b, hb⟩ : ∃ b, ah ++ ot ++ bh = b := ⟨_, rfl⟩
  rw [ha] at hca hra hla ⊢
  rw [hb] at hcb hrb hlb ⊢
  have HAh := Lib.hid ha
  have HBh := Lib.hid hb
  have HRa := Lib.hid hra
  have HRb := Lib.hid hrb
  clear ha hb hra hrb hoa HO4 HO5 HO6 HO7 HR5 HR6 HB4 HB5 HB6 HW5 HW6 HW7 hs5 hs6 H1 H2 H3 H4 HB1
  refine (cut_any _ ca Aa a w7 HRa.out (by omega) hca).mono ?_
  rintro e w8 ⟨vx, rfl, hox, hB8⟩
  obtain ⟨Ax, cx, rfl, hcx, hrx⟩ := hox.rdc
  have HB8 := Lib.hid (HB7.out.trans (hB8.mono HB7.out.size))
  have HRb8 := Lib.hid (HRb.out.rdB.up hB8)
  have HX8 := Lib.hid hrx
  clear hox hB8 hrx HRa HRb HB7
  go_wp2_with fail
  refine (cut_any (· < w8.heap.size) cb Ab b w8 HRb8.out.rdS (by omega) hcb).mono ?_
  rintro e w9 ⟨vy, rfl, hoy, hB9⟩
  obtain ⟨Ay, cy, rfl, hcy, hry⟩ := hoy.rdc
  have HB9 := Lib.hid (HB8.out.trans (hB9.mono HB8.out.size))
  have HX9 := Lib.hid (HX8.out.below hB9)
  have HY9 := Lib.hid hry
  have hnx := split_count a
  have hny := split_count b
  rw [lensB_len] at hcx hcy
  rw [lensB_len, lensB_len]
  obtain ⟨nx, hnx'⟩ : ∃ nx, (splitB a).length = nx := ⟨_, rfl⟩
  obtain ⟨ny, hny'⟩ : ∃ ny, (splitB b).length = ny := ⟨_, rfl⟩
  rw [hnx'] at hnx hcx ⊢
  rw [hny'] at hny hcy ⊢
  have HNX := Lib.hid hnx'
  have HNY := Lib.hid hny'
  clear hoy hB9 hry hnx' hny' HX8 HB8 HRb8
  go_wp2_with fail
  go_loopw [14, 15] (fun v14 v15 wr => ∃ i : Nat, i ≤ nx ∧ v15 = .int .i64 i ∧ v14 = .int .i64 ((((splitB a).take i).flatten.length : Nat) : Int) ∧ Hid (Below w9.heap.size w9 wr)) (fun _ v15 _ => nx - (intOf v15).toNat)
  case atStart => exact ⟨0, by omega, rfl, rfl, Below.refl _ _⟩
  case round =>
    obtain ⟨i, hi, rfl, rfl, HB⟩ := hrel
    obtain ⟨x, hx⟩ : ∃ x, ((splitB a).take i).flatten.length = x := ⟨_, rfl⟩
    have hxle : x ≤ 9000 := by
      have := (split_drop a i (by rw [HNX.out]; omega)).2
      omega
    by_cases hlt : i < nx
    · obtain ⟨ad, e1, hcell⟩ := (HX9.out.below HB.out) i (by rw [lensB_len, HNX.out]; exact hlt)
      rw [lensB_getD a i (by rw [HNX.out]; exact hlt)] at hcell
      subst e1
      have hsn := flat_snoc_len (splitB a) i (by rw [HNX.out]; exact hlt)
      have hyle := split_le a (getD_mem [] (show i < (splitB a).length by rw [HNX.out]; exact hlt))
      obtain ⟨y, hy⟩ : ∃ y, ((splitB a).getD i []).length = y := ⟨_, rfl⟩
      rw [hx, hy] at hsn
      rw [hy] at hcell hyle
      by_cases hin : x + y < ah.length
      · obtain ⟨hiy, heq⟩ := ahead_same ah (on ++ bh) (ot ++ bh) i (by rw [← List.append_assoc, HAh.out, HNX.out]; exact hlt) (by rw [← List.append_assoc, HAh.out, hsn]; exact hin)
        rw [← List.append_assoc, HBh.out] at hiy heq
        rw [← List.append_assoc, HAh.out] at heq
        rw [HNY.out] at hiy
        obtain ⟨ady, e2, hcelly⟩ := (HY9.out.below HB.out) i (by rw [lensB_len, HNY.out]; exact hiy)
        rw [lensB_getD b i (by rw [HNY.out]; exact hiy), heq, hy] at hcelly
        subst e2
        have d1 : decide ((x : Int) + (y : Int) < (ah.length : Int)) = true := by simp; omega
        have d2 : decide (x + y < ah.length) = true := by simp; omega
        have d3 : decide ((ny : Int) ≤ (i : Int)) = false := by simp; omega
        have d4 : decide (ny ≤ i) = false := by simp; omega
        rw [hx]
        have HSN := Lib.hid hsn
        clear hx hy hsn heq
        go_wp2_with fail
        go_quiet (fail)
        go_wp2_with fail
        go_roundw
        case rel => exact ⟨i + 1, by omega, by go_num, by rw [HSN.out]; go_num, by first | exact pw_below_drewN HB.out _ | exact below_drew HB.out | exact HB.out⟩
        case measure => simp [intOf]; omega
      · have d1 : decide ((x : Int) + (y : Int) < (ah.length : Int)) = false := by simp; omega
        have d2 : decide (x + y < ah.length) = false := by simp; omega
        rw [hx]
        clear hx hy hsn
        have HXr := Lib.hid (RdI.lens (HX9.out.below HB.out))
        have HYr := Lib.hid (RdI.lens (HY9.out.below HB.out))
        have HBr := Lib.hid (HB9.out.trans (HB.out.mono HB9.out.size))
        have htx := tails_any cx _ (splitB a) bh.length wr HXr.out (by rw [split_flat]; omega) (by rw [HNX.out]; omega) (by omega)
        rw [HNX.out, split_flat] at htx
        have HTX := Lib.hid htx
        clear htx HX9 HY9 HB9 HXr HB
        go_wp2_with fail
        refine HTX.out.mono ?_
        rintro e w10 ⟨vp, rfl, hop, hB10⟩
        obtain ⟨Ap, cp, rfl, hcp, hrp⟩ := hop.rdc
        have hty := tails_any cy _ (splitB b) bh.length w10 (HYr.out.below hB10) (by rw [split_flat]; omega) (by rw [HNY.out]; omega) (by omega)
        rw [HNY.out, split_flat] at hty
        have HTY := Lib.hid hty
        have HP10 := Lib.hid hrp
        have HB10 := Lib.hid (HBr.out.trans (hB10.mono HBr.out.size))
        have hpl := tailsL_len (splitB a) bh.length
        have hql := tailsL_len (splitB b) bh.length
        rw [HNX.out] at hpl
        rw [HNY.out] at hql
        clear hty hrp hop hB10 HYr HBr HTX
        obtain ⟨ps, hps⟩ : ∃ ps, tailsL (splitB a) bh.length = ps := ⟨_, rfl⟩
        obtain ⟨qs, hqs⟩ : ∃ qs, tailsL (splitB b) bh.length = qs := ⟨_, rfl⟩
        have htfa := tails_from (ah ++ on) bh
        have htfb := tails_from (ah ++ ot) bh
        rw [HAh.out, hps] at htfa
        rw [HBh.out, hqs] at htfb
        rw [hps] at HP10 hcp hpl ⊢
        rw [hqs] at HTY hql
        have HTFA := Lib.hid htfa
        have HTFB := Lib.hid htfb
        clear hps hqs htfa htfb
        go_wp2_with fail
        refine HTY.out.mono ?_
        rintro e w11 ⟨vq, rfl, hoq, hB11⟩
        obtain ⟨Aq, cq, rfl, hcq, hrq⟩ := hoq.rdc
        have HQ11 := Lib.hid hrq
        have HP11 := Lib.hid (HP10.out.below hB11)
        have HB11 := Lib.hid (HB10.out.trans (hB11.mono HB10.out.size))
        clear hrq hoq hB11 HP10 HB10 HTY
        obtain ⟨np, hnp⟩ : ∃ np, ps.length = np := ⟨_, rfl⟩
        obtain ⟨nq, hnq⟩ : ∃ nq, qs.length = nq := ⟨_, rfl⟩
        have HNP := Lib.hid hnp
        have HNQ := Lib.hid hnq
        rw [hnp] at hcp hpl ⊢
        rw [hnq] at hcq hql ⊢
        clear hnp hnq
        go_wp2_with fail
        go_loopw [18] (fun v18 w2 => ∃ i2 : Nat, i2 ≤ np ∧ v18 = .int .i64 i2 ∧ Hid (Below w11.heap.size w11 w2)) (fun v18 _ => np - (intOf v18).toNat)
        case atStart => exact ⟨0, by omega, rfl, Below.refl _ _⟩
        case round =>
          rename_i wo
          obtain ⟨i2, hi2, rfl, HBo⟩ := hrel
          by_cases hip : i2 < np
          · go_wp2_with fail
            go_loopw [19] (fun v19 w3 => ∃ k2 : Nat, k2 ≤ nq ∧ v19 = .int .i64 k2 ∧ Hid (Below w11.heap.size w11 w3)) (fun v19 _ => nq - (intOf v19).toNat)
            case atStart => exact ⟨0, by omega, rfl, HBo⟩
            case round =>
              obtain ⟨k2, hk2, rfl, HBi⟩ := hrel
              by_cases hkq : k2 < nq
              · obtain ⟨v, hv1, hv2⟩ := HTFA.out i2 (by rw [HNP.out]; exact hip)
                obtain ⟨v', hv1', hv2'⟩ := HTFB.out k2 (by rw [HNQ.out]; exact hkq)
                obtain ⟨adp, ep, hcellp⟩ := (HP11.out.below HBi.out) i2 (by rw [HNP.out]; exact hip)
                obtain ⟨adq, eq', hcellq⟩ := (HQ11.out.below HBi.out) k2 (by rw [HNQ.out]; exact hkq)
                rw [hv1] at hcellp
                rw [hv1'] at hcellq
                by_cases hvv : v = v'
                · subst hvv
                  have hdd : ps.drop i2 = qs.drop k2 := by rw [hv2, hv2']
                  have hll := congrArg List.length hdd
                  rw [List.length_drop, List.length_drop, HNP.out, HNQ.out] at hll
                  obtain ⟨ns, hns⟩ : ∃ ns, ps.drop i2 = ns := ⟨_, rfl⟩
                  have hns' : qs.drop k2 = ns := by rw [← hdd]; exact hns
                  obtain ⟨A5, c5, hcut5, hcr5⟩ := cutI Ap cp ps ns i2 (by rw [HNP.out]; omega) (by rw [HNP.out]; exact hcp) hns
                  obtain ⟨A6, c6, hcut6, hcr6⟩ := cutI Aq cq qs ns k2 (by rw [HNQ.out]; omega) (by rw [HNQ.out]; exact hcq) hns'
                  rw [HNP.out] at hcut5
                  rw [HNQ.out] at hcut6
                  have HR5 := Lib.hid (hcr5 _ HP11.out)
                  have HR6 := Lib.hid (hcr6 _ HQ11.out)
                  have hnl : ns.length ≤ 9000 := by rw [← hns, List.length_drop, HNP.out]; omega
                  obtain ⟨tt, ht⟩ : ∃ tt, (np : Int) - (i2 : Int) = tt := ⟨_, rfl⟩
                  have ht2 : (nq : Int) - (k2 : Int) = tt := by omega
                  have ht3 : 0 ≤ tt := by omega
                  have ht4 : tt ≤ 9000 := by omega
                  subst ep eq'
                  clear hv1 hv2 hv1' hv2' hdd hll hns hns' hcr5 hcr6
                  have HS0 : Hid (Below w11.heap.size w11 wr.drew ∧ wr.drew.cell? (adp.add i2) = some (.int .i64 v) ∧ wr.drew.cell? (adq.add k2) = some (.int .i64 v)) := ⟨below_drew HBi.out, hcellp, hcellq⟩
                  go_wp2_with fail
                  go_region_held3 (fun W => Below w11.heap.size w11 W ∧ W.cell? (adp.add i2) = some (.int .i64 v) ∧ W.cell? (adq.add k2) = some (.int .i64 v)) (first | assumption | exact HS0.out)
                    (first
                      | (go_at_call 46; have hSw : Below w11.heap.size w11 _ ∧ _ ∧ _ := (by assumption); refine (sameInts_any c5 c6 A5 A6 ns ns _ (HR5.out.below hSw.1) (HR6.out.below hSw.1) (by omega) (by omega)).mono ?_; rintro e w6 ⟨rfl, hB6⟩; rw [decide_eq_true rfl]; have hS6 : Below w11.heap.size w11 w6 ∧ w6.cell? (adp.add i2) = some (.int .i64 v) ∧ w6.cell? (adq.add k2) = some (.int .i64 v) := ⟨hSw.1.trans (hB6.mono hSw.1.size), pw_cell_below hB6 hSw.2.1, pw_cell_below hB6 hSw.2.2⟩; clear hB6))
                  go_wp2_with fail
                  go_roundw
                  case rel => exact ⟨k2 + 1, by omega, by go_num, hS6.1⟩
                  case measure => simp [intOf]; omega
                · have b1 : ((v : Int) == (v' : Int)) = false := beq_eq_false_iff_ne.2 (by omega)
                  have b2 : (v == v') = false := beq_eq_false_iff_ne.2 hvv
                  subst ep eq'
                  clear hv1 hv2 hv1' hv2'
                  go_wp2_with fail
                  go_quiet (fail)
                  go_wp2_with fail
                  go_roundw
                  case rel => exact ⟨k2 + 1, by omega, by go_num, by first | exact pw_below_drewN HBi.out _ | exact below_drew HBi.out | exact HBi.out⟩
                  case measure => simp [intOf]; omega
              · go_wp2_with fail
                go_roundw
                case rel => exact ⟨i2 + 1, by omega, by go_num, HBi⟩
                case measure => simp [intOf]; omega
          · go_wp2_with fail
            go_ret
            exact ⟨rfl, HB11.out.trans (HBo.out.mono HB11.out.size)⟩
    · have d0 : decide ((i : Int) < (nx : Int)) = false := by simp; omega
      rw [hx]
      clear hx
      have HXr := Lib.hid (RdI.lens (HX9.out.below HB.out))
      have HYr := Lib.hid (RdI.lens (HY9.out.below HB.out))
      have HBr := Lib.hid (HB9.out.trans (HB.out.mono HB9.out.size))
      have htx := tails_any cx _ (splitB a) bh.length wr HXr.out (by rw [split_flat]; omega) (by rw [HNX.out]; omega) (by omega)
      rw [HNX.out, split_flat] at htx
      have HTX := Lib.hid htx
      clear htx HX9 HY9 HB9 HXr HB
      go_wp2_with fail
      refine HTX.out.mono ?_
      rintro e w10 ⟨vp, rfl, hop, hB10⟩
      obtain ⟨Ap, cp, rfl, hcp, hrp⟩ := hop.rdc
      have hty := tails_any cy _ (splitB b) bh.length w10 (HYr.out.below hB10) (by rw [split_flat]; omega) (by rw [HNY.out]; omega) (by omega)
      rw [HNY.out, split_flat] at hty
      have HTY := Lib.hid hty
      have HP10 := Lib.hid hrp
      have HB10 := Lib.hid (HBr.out.trans (hB10.mono HBr.out.size))
      have hpl := tailsL_len (splitB a) bh.length
      have hql := tailsL_len (splitB b) bh.length
      rw [HNX.out] at hpl
      rw [HNY.out] at hql
      clear hty hrp hop hB10 HYr HBr HTX
      obtain ⟨ps, hps⟩ : ∃ ps, tailsL (splitB a) bh.length = ps := ⟨_, rfl⟩
      obtain ⟨qs, hqs⟩ : ∃ qs, tailsL (splitB b) bh.length = qs := ⟨_, rfl⟩
      have htfa := tails_from (ah ++ on) bh
      have htfb := tails_from (ah ++ ot) bh
      rw [HAh.out, hps] at htfa
      rw [HBh.out, hqs] at htfb
      rw [hps] at HP10 hcp hpl ⊢
      rw [hqs] at HTY hql
      have HTFA := Lib.hid htfa
      have HTFB := Lib.hid htfb
      clear hps hqs htfa htfb
      go_wp2_with fail
      refine HTY.out.mono ?_
      rintro e w11 ⟨vq, rfl, hoq, hB11⟩
      obtain ⟨Aq, cq, rfl, hcq, hrq⟩ := hoq.rdc
      have HQ11 := Lib.hid hrq
      have HP11 := Lib.hid (HP10.out.below hB11)
      have HB11 := Lib.hid (HB10.out.trans (hB11.mono HB10.out.size))
      clear hrq hoq hB11 HP10 HB10 HTY
      obtain ⟨np, hnp⟩ : ∃ np, ps.length = np := ⟨_, rfl⟩
      obtain ⟨nq, hnq⟩ : ∃ nq, qs.length = nq := ⟨_, rfl⟩
      have HNP := Lib.hid hnp
      have HNQ := Lib.hid hnq
      rw [hnp] at hcp hpl ⊢
      rw [hnq] at hcq hql ⊢
      clear hnp hnq
      go_wp2_with fail
      go_loopw [18] (fun v18 w2 => ∃ i2 : Nat, i2 ≤ np ∧ v18 = .int .i64 i2 ∧ Hid (Below w11.heap.size w11 w2)) (fun v18 _ => np - (intOf v18).toNat)
      case atStart => exact ⟨0, by omega, rfl, Below.refl _ _⟩
      case round =>
        rename_i wo
        obtain ⟨i2, hi2, rfl, HBo⟩ := hrel
        by_cases hip : i2 < np
        · go_wp2_with fail
          go_loopw [19] (fun v19 w3 => ∃ k2 : Nat, k2 ≤ nq ∧ v19 = .int .i64 k2 ∧ Hid (Below w11.heap.size w11 w3)) (fun v19 _ => nq - (intOf v19).toNat)
          case atStart => exact ⟨0, by omega, rfl, HBo⟩
          case round =>
            obtain ⟨k2, hk2, rfl, HBi⟩ := hrel
            by_cases hkq : k2 < nq
            · obtain ⟨v, hv1, hv2⟩ := HTFA.out i2 (by rw [HNP.out]; exact hip)
              obtain ⟨v', hv1', hv2'⟩ := HTFB.out k2 (by rw [HNQ.out]; exact hkq)
              obtain ⟨adp, ep, hcellp⟩ := (HP11.out.below HBi.out) i2 (by rw [HNP.out]; exact hip)
              obtain ⟨adq, eq', hcellq⟩ := (HQ11.out.below HBi.out) k2 (by rw [HNQ.out]; exact hkq)
              rw [hv1] at hcellp
              rw [hv1'] at hcellq
              by_cases hvv : v = v'
              · subst hvv
                have hdd : ps.drop i2 = qs.drop k2 := by rw [hv2, hv2']
                have hll := congrArg List.length hdd
                rw [List.length_drop, List.length_drop, HNP.out, HNQ.out] at hll
                obtain ⟨ns, hns⟩ : ∃ ns, ps.drop i2 = ns := ⟨_, rfl⟩
                have hns' : qs.drop k2 = ns := by rw [← hdd]; exact hns
                obtain ⟨A5, c5, hcut5, hcr5⟩ := cutI Ap cp ps ns i2 (by rw [HNP.out]; omega) (by rw [HNP.out]; exact hcp) hns
                obtain ⟨A6, c6, hcut6, hcr6⟩ := cutI Aq cq qs ns k2 (by rw [HNQ.out]; omega) (by rw [HNQ.out]; exact hcq) hns'
                rw [HNP.out] at hcut5
                rw [HNQ.out] at hcut6
                have HR5 := Lib.hid (hcr5 _ HP11.out)
                have HR6 := Lib.hid (hcr6 _ HQ11.out)
                have hnl : ns.length ≤ 9000 := by rw [← hns, List.length_drop, HNP.out]; omega
                obtain ⟨tt, ht⟩ : ∃ tt, (np : Int) - (i2 : Int) = tt := ⟨_, rfl⟩
                have ht2 : (nq : Int) - (k2 : Int) = tt := by omega
                have ht3 : 0 ≤ tt := by omega
                have ht4 : tt ≤ 9000 := by omega
                subst ep eq'
                clear hv1 hv2 hv1' hv2' hdd hll hns hns' hcr5 hcr6
                have HS0 : Hid (Below w11.heap.size w11 wr.drew ∧ wr.drew.cell? (adp.add i2) = some (.int .i64 v) ∧ wr.drew.cell? (adq.add k2) = some (.int .i64 v)) := ⟨below_drew HBi.out, hcellp, hcellq⟩
                go_wp2_with fail
                go_region_held3 (fun W => Below w11.heap.size w11 W ∧ W.cell? (adp.add i2) = some (.int .i64 v) ∧ W.cell? (adq.add k2) = some (.int .i64 v)) (first | assumption | exact HS0.out)
                  (first
                    | (go_at_call 46; have hSw : Below w11.heap.size w11 _ ∧ _ ∧ _ := (by assumption); refine (sameInts_any c5 c6 A5 A6 ns ns _ (HR5.out.below hSw.1) (HR6.out.below hSw.1) (by omega) (by omega)).mono ?_; rintro e w6 ⟨rfl, hB6⟩; rw [decide_eq_true rfl]; have hS6 : Below w11.heap.size w11 w6 ∧ w6.cell? (adp.add i2) = some (.int .i64 v) ∧ w6.cell? (adq.add k2) = some (.int .i64 v) := ⟨hSw.1.trans (hB6.mono hSw.1.size), pw_cell_below hB6 hSw.2.1, pw_cell_below hB6 hSw.2.2⟩; clear hB6))
                go_wp2_with fail
                go_roundw
                case rel => exact ⟨k2 + 1, by omega, by go_num, hS6.1⟩
                case measure => simp [intOf]; omega
              · have b1 : ((v : Int) == (v' : Int)) = false := beq_eq_false_iff_ne.2 (by omega)
                have b2 : (v == v') = false := beq_eq_false_iff_ne.2 hvv
                subst ep eq'
                clear hv1 hv2 hv1' hv2'
                go_wp2_with fail
                go_quiet (fail)
                go_wp2_with fail
                go_roundw
                case rel => exact ⟨k2 + 1, by omega, by go_num, by first | exact pw_below_drewN HBi.out _ | exact below_drew HBi.out | exact HBi.out⟩
                case measure => simp [intOf]; omega
            · go_wp2_with fail
              go_roundw
              case rel => exact ⟨i2 + 1, by omega, by go_num, HBi⟩
              case measure => simp [intOf]; omega
        · go_wp2_with fail
          go_ret
          exact ⟨rfl, HB11.out.trans (HBo.out.mono HB11.out.size)⟩

set_option maxHeartbeats 1600000 in
theorem edits_out (A1 A2 A3 A4 : Option Addr) (n1 n2 n3 n4 k1 k2 k3 k4 : Nat) (w : World) (b1 : n1 ≤ 9223372036854775807) (b2 : n2 ≤ 9223372036854775807) (b3 : n3 ≤ 9223372036854775807) (b4 : n4 ≤ 9223372036854775807)
    (h : ¬ (n1 ≤ 4000 ∧ n2 ≤ 1000 ∧ n3 ≤ 1000 ∧ n4 ≤ 4000)) :
    Calls Try.prog 18 #[.slice A1 n1 k1, .slice A2 n2 k2, .slice A3 n3 k3, .slice A4 n4 k4] w fun e w' => e = .returned (.bool true) ∧ Below w.heap.size w w' := by
  by_cases h1 : n1 ≤ 4000
  · have d1 : decide ((4000 : Int) < (n1 : Int)) = false := by simp; omega
    by_cases h2 : n2 ≤ 1000
    · have d2 : decide ((1000 : Int) < (n2 : Int)) = false := by simp; omega
      by_cases h3 : n3 ≤ 1000
      · have d3 : decide ((1000 : Int) < (n3 : Int)) = false := by simp; omega
        have d4 : decide ((4000 : Int) < (n4 : Int)) = true := by simp; omega
        clear h h1 h2 h3
        go_enter Try.func18, Try.ntmps18
        go_wp2_with fail
        refine (awake6_any w).mono ?_
        rintro e w1 ⟨rfl, hB1⟩
        go_wp2_with fail
        go_ret
        exact ⟨rfl, hB1⟩
      · have d3 : decide ((1000 : Int) < (n3 : Int)) = true := by simp; omega
        clear h h1 h2 h3
        go_enter Try.func18, Try.ntmps18
        go_wp2_with fail
        refine (awake6_any w).mono ?_
        rintro e w1 ⟨rfl, hB1⟩
        go_wp2_with fail
        go_ret
        exact ⟨rfl, hB1⟩
    · have d2 : decide ((1000 : Int) < (n2 : Int)) = true := by simp; omega
      clear h h1 h2
      go_enter Try.func18, Try.ntmps18
      go_wp2_with fail
      refine (awake6_any w).mono ?_
      rintro e w1 ⟨rfl, hB1⟩
      go_wp2_with fail
      go_ret
      exact ⟨rfl, hB1⟩
  · have d1 : decide ((4000 : Int) < (n1 : Int)) = true := by simp; omega
    clear h h1
    go_enter Try.func18, Try.ntmps18
    go_wp2_with fail
    refine (awake6_any w).mono ?_
    rintro e w1 ⟨rfl, hB1⟩
    go_wp2_with fail
    go_ret
    exact ⟨rfl, hB1⟩

theorem ChunkEdits_walk (a0 : Option Addr) (len0 cap0 : Nat) (z0 : List Int) (a1 : Option Addr) (len1 cap1 : Nat) (z1 : List Int) (a2 : Option Addr) (len2 cap2 : Nat) (z2 : List Int) (a3 : Option Addr) (len3 cap3 : Nat) (z3 : List Int) (w : World) (w0 : IsRow .u8 w a0 len0 cap0 z0) (w1 : IsRow .u8 w a1 len1 cap1 z1) (w2 : IsRow .u8 w a2 len2 cap2 z2) (w3 : IsRow .u8 w a3 len3 cap3 z3) :
    Calls Try.prog 18 #[.slice a0 len0 cap0, .slice a1 len1 cap1, .slice a2 len2 cap2, .slice a3 len3 cap3] w fun e w' => e = .returned (.bool true) ∧ Below w.heap.size w w' := by
  by_cases h : len0 ≤ 4000 ∧ len1 ≤ 1000 ∧ len2 ≤ 1000 ∧ len3 ≤ 4000
  · obtain ⟨h1, h2, h3, h4⟩ := h
    obtain ⟨x0, rfl, _, hr0⟩ := w0.rd (by omega)
    obtain ⟨x1, rfl, _, hr1⟩ := w1.rd (by omega)
    obtain ⟨x2, rfl, _, hr2⟩ := w2.rd (by omega)
    obtain ⟨x3, rfl, _, hr3⟩ := w3.rd (by omega)
    exact edits_walk _ _ _ _ _ _ _ _ _ _ _ _ w hr0 hr1 hr2 hr3 h1 h2 h3 h4
  · exact edits_out _ _ _ _ _ _ _ _ _ _ _ _ w w0.len.2 w1.len.2 w2.len.2 w3.len.2 h
end Go.Proofs.Ytneieogpdjlnbaa
