/- The walk of layer 6's law ChunkPushes: it returns true and writes nothing that was there. Conditions: those that each statement names. -/
import Derived.Test.YtneieogpdjlnbaaPuA
set_option linter.unusedVariables false
set_option linter.unusedSimpArgs false
namespace Go.Proofs.Ytneieogpdjlnbaa
open Go Go.RowKit Go.Proofs.YtneieogpdjlnbaaW.PrintWords

set_option maxRecDepth 100000 in
set_option maxHeartbeats 3200000 in
theorem pushes_walk (A : Option Addr) (cap : Nat) (ls : List (List Int × Bool)) (w : World) (hr : RdP w A ls) (hn : ls.length ≤ 140737488355328) :
    Calls Try.prog 14 #[.slice A ls.length cap] w fun e w' => e = .returned (.bool true) ∧ Below w.heap.size w w' := by
  have HR := Lib.hid hr
  have HS := Lib.hid hr.sum
  clear hr
  go_enter Try.func14, Try.ntmps14
  go_wp2_with fail
  go_loop [3, 4] (fun v3 v4 => ∃ i : Nat, i ≤ ls.length ∧ i ≤ 61 ∧ v4 = .int .i64 i ∧ v3 = .int .i64 (sumP ls i : Nat)) (fun _ v4 => ls.length - (intOf v4).toNat)
  case atStart => exact ⟨0, by omega, by omega, rfl, rfl⟩
  case round =>
    obtain ⟨i, hi, hi61, rfl, rfl⟩ := hrel
    have hsi := HS.out i hi
    obtain ⟨x, hx⟩ : ∃ x, sumP ls i = x := ⟨_, rfl⟩
    rw [hx] at hsi ⊢
    by_cases hc : i < ls.length ∧ i < 61
    · obtain ⟨h1, h2⟩ := hc
      obtain ⟨ad, A', c', rfl, hc0, hc1, hc2, hrb⟩ := HR.out i h1
      have hsn := sumP_succ ls i h1
      have hsn2 := HS.out (i + 1) h1
      obtain ⟨y, hy⟩ : ∃ y, (ls.getD i ([], false)).1.length = y := ⟨_, rfl⟩
      rw [hy] at hc0 hsn
      rw [hx] at hsn
      rw [hsn] at hsn2
      have HSN := Lib.hid hsn
      clear hx hy hsn hrb hc1 hc2
      have d1 : decide ((i : Int) < (ls.length : Int)) = true := by simp; omega
      have d2 : decide ((i : Int) < 61) = true := by simp; omega
      go_wp2_with fail
      go_round
      case rel => exact ⟨i + 1, by omega, by omega, by go_num, by rw [HSN.out]; go_num⟩
      case measure => simp [intOf]; omega
    · by_cases h60 : ls.length ≤ 60
      · have hin : i = ls.length := by omega
        have d0 : decide ((i : Int) < (ls.length : Int)) = false := by simp; omega
        have d60 : decide ((60 : Int) < (ls.length : Int)) = false := by simp; omega
        by_cases h8 : x ≤ 8000
        · have d8 : decide ((8000 : Int) < (x : Int)) = false := by simp; omega
          subst hin
          have HX := Lib.hid hx
          clear hx hc
          go_wp2_with fail
          refine (new_any w).mono ?_
          rintro e w1 ⟨g, rfl, hg, hc1, hB1⟩
          have hbr := Blk.new w1 65 #[.slice none 0 0, .bool false]
          have HC1 := Lib.hid (hc1.grown (World.grownBy_alloc w1 (.cells #[.slice none 0 0, .bool false] 65) none) (by simp))
          have HB1 := Lib.hid (hB1.alloc (show w.heap.size ≤ w1.heap.size from hB1.size) (.cells #[.slice none 0 0, .bool false] 65))
          have HBR := Lib.hid hbr
          have hgl := hc1.lt
          clear hc1 hB1 hbr
          go_wp2_with fail
          have hI0 : PuI w g w1.heap.size [] [] false (.slice none 0 0) (fun _ => False) (fun _ => False) none 0 (w1.alloc (.cells #[.slice none 0 0, .bool false] 65)) := ⟨HC1.out, OwnB.nil _ _, fun k hk => hk.elim, HBR.out, RdS.nil _ _ _, fun k hk => hk.elim, by simp, fun _ => ⟨rfl, rfl⟩, fun _ => rfl, HB1.out⟩
          have HI0 := Lib.hid hI0
          obtain ⟨gr, hgr⟩ : ∃ gr, w1.heap.size = gr := ⟨_, rfl⟩
          have hgw : w.heap.size ≤ gr := by have := HB1.out.size; simp at this; omega
          rw [hgr] at HI0 hgl ⊢
          clear hI0 HC1 HBR HB1
          generalize w1.alloc (.cells #[.slice none 0 0, .bool false] 65) = wl at *
          go_loopw [7] (fun v7 wr => ∃ (i : Nat) (h left : List Int) (ov : Bool) (lv : Value) (SL SR : Nat → Prop) (A' : Option Addr) (c' : Nat), i ≤ ls.length ∧ v7 = .int .i64 i ∧ left.length ≤ sumP ls i ∧ Hid (PuI w g gr h left ov lv SL SR A' c' wr)) (fun v7 _ => ls.length - (intOf v7).toNat)
          case atStart => exact ⟨0, [], [], false, _, _, _, none, 0, by omega, rfl, by simp, HI0⟩
          case round =>
            obtain ⟨j, h, left, ov, lv, SL, SR, A', c', hj, rfl, hsl, HI⟩ := hrel
            by_cases hlt : j < ls.length
            · have hBI := HI.out.2.2.2.2.2.2.2.2.2
              obtain ⟨ad, Ap, cp, eA, k0, k1, hc2, hrb⟩ := HR.out j hlt
              have hc0 := pw_cell_below hBI k0
              have hc1 := pw_cell_below hBI k1
              subst eA
              have hsn := sumP_succ ls j hlt
              have hsm := sumP_mono ls (show j + 1 ≤ ls.length from hlt) (Nat.le_refl _)
              rw [HX.out] at hsm
              obtain ⟨xs, hxs⟩ : ∃ xs, (ls.getD j ([], false)).1 = xs := ⟨_, rfl⟩
              obtain ⟨fl, hfl⟩ : ∃ fl, (ls.getD j ([], false)).2 = fl := ⟨_, rfl⟩
              rw [hxs] at k0 hc0 hc2 hrb hsn
              rw [hfl] at hc1
              have hc1' : wr.cell? ⟨(ad.add (j * 2)).block, (ad.add (j * 2)).off + 1, none⟩ = some (.bool fl) := by rw [field_one]; exact hc1
              have hxl : xs.length ≤ 8000 := by omega
              have hll : left.length ≤ 8000 := by
                have := sumP_mono ls (Nat.le_of_lt hlt) (Nat.le_refl _)
                rw [HX.out] at this
                omega
              have HSN := Lib.hid hsn
              have HRB := Lib.hid hrb
              have HC0 := Lib.hid k0
              clear hsn hsm hxs hfl hrb k0 k1
              cases fl with
              | true =>
                cases ov with
                | false =>
                  obtain ⟨q1, q2, q3, q4, q5, q6, q7, _, _, q10⟩ := HI.out
                  have hgrW := q4.lt
                  have hgW := q1.lt
                  have Q1 := Lib.hid q1
                  have Q2 := Lib.hid q2
                  have Q3 := Lib.hid q3
                  have Q4 := Lib.hid q4
                  have Q5 := Lib.hid q5
                  have Q6 := Lib.hid q6
                  have Q10 := Lib.hid q10
                  clear q1 q2 q3 q4 q5 q6 q10 HI hc0 hBI
                  go_wp2_with fail
                  refine (end_any g h lv wr Q1.out).mono ?_
                  rintro e w2 ⟨rfl, hk2, ht2⟩
                  have hgr2 : Blk w2 gr 65 #[.slice A' left.length c', .bool false] := Q4.out.grown ht2.1 (by simp; omega)
                  have ho2 := Q2.out.keep (fun k hk hlt => ht2.1.block k hlt (by simp; exact (Q3.out k hk).2.1))
                  have hr2 := Q5.out.keep (fun k hk hlt => ht2.1.block k hlt (by simp; exact (Q6.out k hk).2.1))
                  have HB2 := Lib.hid (Q10.out.grown ht2.1 Q10.out.size (fun k e => by cases e; omega))
                  have hs2 : w2.heap.size = wr.heap.size := ht2.2
                  have K2 := Lib.hid hk2
                  have G2 := Lib.hid hgr2
                  have O2 := Lib.hid ho2
                  have R2 := Lib.hid hr2
                  have HS2 := Lib.hid hs2
                  clear hk2 ht2 hgr2 ho2 hr2 hs2 Q1 Q2 Q4 Q5 Q10
                  go_wp2_with fail
                  refine (rend_any gr _ w2 G2.out).mono ?_
                  rintro e w3 ⟨rfl, hgr3, ht3⟩
                  have hk3 := K2.out.grown ht3.1 (by simp; omega)
                  have ho3 := O2.out.keep (fun k hk hlt => ht3.1.block k hlt (by simp; exact (Q3.out k hk).2.2.1))
                  have hr3 := R2.out.keep (fun k hk hlt => ht3.1.block k hlt (by simp; exact (Q6.out k hk).2.2.1))
                  obtain ⟨A5, c5, e5, _, hr5⟩ := ho3.rd (by omega)
                  subst e5
                  have hsame : ∀ n, Calls Try.prog 42 #[.slice A5 left.length c5, .slice A' left.length c'] (w3.drewN n) fun e w' => e = .returned (.bool true) ∧ w' = w3.drewN n := fun n => by
                    have := same_any _ _ c5 c' A5 A' left left (w3.drewN n) (show RdB (w3.drewN n) w3.heap.size A5 left from hr5.rdB) (show RdB (w3.drewN n) w3.heap.size A' left from hr3.rdB)
                    rw [decide_eq_true rfl] at this
                    exact this.mono (fun e w' h => ⟨h.1, h.2.symm⟩)
                  have hleft : ∀ n, Calls Try.prog 35 #[.pointer (some ⟨g, 0, none⟩)] (w3.drewN n) fun e w' => e = .returned (.int .i64 0) ∧ w' = w3.drewN n := fun n =>
                    (left_any g h none 0 0 true (w3.drewN n) hk3).mono (fun e w' h => ⟨h.1, h.2.symm⟩)
                  have c30 : w3.cell? ⟨gr, 0, none⟩ = some (.slice none 0 0) := hgr3.cell 0
                  have HSM := Lib.hid hsame
                  have HLF := Lib.hid hleft
                  have HB3 := Lib.hid (HB2.out.grown ht3.1 HB2.out.size (fun k e => by cases e; omega))
                  have K3 := Lib.hid hk3
                  have G3 := Lib.hid hgr3
                  clear hk3 ho3 hr3 hr5 hsame hleft ht3 hgr3 K2 G2 O2 R2 HB2
                  go_wp2_with fail
                  go_quiet ((first | (go_at_call 42; exact Calls.quiet_of_same (HSM.out _)) | (go_at_call 35; exact Calls.quiet_of_same (HLF.out _))))
                  go_wp2_with fail
                  go_roundw
                  case rel =>
                    have hP : PuI w g gr h [] true (.slice none 0 0) (fun _ => False) (fun _ => False) none 0 w3 := ⟨K3.out, OwnB.nil _ _, fun k hk => hk.elim, G3.out, RdS.nil _ _ _, fun k hk => hk.elim, by simp, fun (hh : true = false) => (by cases hh), fun _ => rfl, HB3.out⟩
                    exact ⟨j + 1, h, [], true, _, _, _, none, 0, by omega, by go_num, by simp, by first | exact hP.drewN _ | exact hP⟩
                  case measure => simp [intOf]; omega
                | true =>
                  obtain ⟨q1, q2, q3, q4, q5, q6, q7, _, q9, q10⟩ := HI.out
                  have hle0 := q9 rfl
                  subst hle0
                  obtain ⟨A5, c5, e5⟩ := q2.shape
                  subst e5
                  have c30 : wr.cell? ⟨gr, 0, none⟩ = some (.slice A' 0 c') := q4.cell 0
                  have hsame : ∀ n, Calls Try.prog 42 #[.slice none 0 0, .slice none 0 0] (wr.drewN n) fun e w' => e = .returned (.bool true) ∧ w' = wr.drewN n := fun n => by
                    have := same_any 0 0 0 0 none none [] [] (wr.drewN n) (RdB.nil _ _ _) (RdB.nil _ _ _)
                    rw [decide_eq_true rfl] at this
                    exact this.mono (fun e w' h => ⟨h.1, h.2.symm⟩)
                  have hleft : ∀ n, Calls Try.prog 35 #[.pointer (some ⟨g, 0, none⟩)] (wr.drewN n) fun e w' => e = .returned (.int .i64 0) ∧ w' = wr.drewN n := fun n =>
                    (left_any g h A5 0 c5 true (wr.drewN n) q1).mono (fun e w' h => ⟨h.1, h.2.symm⟩)
                  have HSM := Lib.hid hsame
                  have HLF := Lib.hid hleft
                  have HE := Lib.hid (end_err (.pointer (some ⟨g, 0, none⟩)) 9 wr (.inr rfl) (by have := out_any g h _ true wr q1; simpa using this))
                  have HE2 := Lib.hid (rend_over gr _ wr q4)
                  clear q1 q2 q3 q4 q5 q6 q7 q9 q10 hsame hleft hc0 hBI
                  go_wp2_with fail
                  refine HE.out.mono ?_
                  rintro e w2 ⟨rfl, rfl⟩
                  go_wp2_with fail
                  refine HE2.out.mono ?_
                  rintro e w2 ⟨rfl, rfl⟩
                  go_wp2_with fail
                  go_quiet ((first | (go_at_call 42; exact Calls.quiet_of_same (HSM.out _)) | (go_at_call 35; exact Calls.quiet_of_same (HLF.out _))))
                  go_wp2_with fail
                  go_roundw
                  case rel => exact ⟨j + 1, h, [], true, _, SL, SR, A', c', by omega, by go_num, by simp, by first | exact HI.out.drewN _ | exact HI.out⟩
                  case measure => simp [intOf]; omega
              | false =>
                cases ov with
                | true =>
                  obtain ⟨q1, q2, q3, q4, q5, q6, q7, _, q9, q10⟩ := HI.out
                  have hle0 := q9 rfl
                  subst hle0
                  obtain ⟨A5, c5, e5⟩ := q2.shape
                  subst e5
                  have lgW := q1.lt
                  have lrW := q4.lt
                  have hrb1 := HRB.out
                  have HLN := Lib.hid (lent_any wr.heap.size cp Ap xs wr (hrb1.up q10) (by omega))
                  have Q10 := Lib.hid q10
                  have hc1s := q10.size
                  have Q1 := Lib.hid q1
                  have Q3 := Lib.hid q3
                  have Q4 := Lib.hid q4
                  have Q6 := Lib.hid q6
                  clear q1 q2 q3 q4 q5 q6 q7 q9 q10 hrb1 hBI
                  go_wp2_with fail
                  refine HLN.out.mono ?_
                  rintro e w1 ⟨⟨rfl, hL1⟩, hB1⟩
                  have HPE := Lib.hid (push_err (some ⟨g, 0, none⟩) 9 (some ⟨wr.heap.size, 0, none⟩) xs.length (xs.length + 3) w1 (.inr rfl) (fun W hB => by have := out_any g h _ true W ((Q1.out.below hB1 lgW).below hB (by have := hB1.size; omega)); simpa using this))
                  have HL1 := Lib.hid hL1
                  have HB1 := Lib.hid hB1
                  clear hL1 hB1 HLN
                  go_wp2_with fail
                  refine HPE.out.mono ?_
                  rintro e w2 ⟨rfl, hB2⟩
                  have hB12 : Below wr.heap.size wr w2 := HB1.out.trans (hB2.mono HB1.out.size)
                  have hB02 : Below w.heap.size w w2 := Q10.out.trans (hB12.mono hc1s)
                  have hbr : Blk w2 gr 65 #[.slice A' 0 c', .bool true] := (hB12.block gr lrW).trans Q4.out
                  have HRP := Lib.hid (rpush_over gr _ Ap xs.length cp w2 hbr)
                  have hcp2 := pw_cell_below hB02 HC0.out
                  have hcg : w2.cell? ⟨gr, 0, none⟩ = some (.slice A' 0 c') := hbr.cell 0
                  have HL2 : Hid (Lent w2 wr.heap.size xs) := (hB2.block _ HL1.out.lt).trans HL1.out
                  have HC2 : Hid (CutAt w2 g h (.slice A5 0 c5) true) := Q1.out.below hB12 lgW
                  have HS0 : Hid (Below w2.heap.size w2 w2.drew ∧ w2.drew.cell? ⟨gr, 0, none⟩ = some (.slice A' 0 c') ∧ w2.drew.cell? (ad.add (j * 2)) = some (.slice Ap xs.length cp)) := ⟨(Below.refl _ _).drew, hcg, hcp2⟩
                  have HB12 := Lib.hid hB12
                  have HB02 := Lib.hid hB02
                  clear hB2 hB12 hB02 hbr hcg HPE HL1 HB1 hc0
                  go_wp2_with fail
                  refine HRP.out.mono ?_
                  rintro e w3 ⟨rfl, rfl⟩
                  clear hcp2
                  go_wp2_with fail
                  go_region_held3 (fun W => Below w2.heap.size w2 W ∧ W.cell? ⟨gr, 0, none⟩ = some (.slice A' 0 c') ∧ W.cell? (ad.add (j * 2)) = some (.slice Ap xs.length cp)) (first | assumption | exact HS0.out)
                    (first
                      | (go_at_call 45; have hSw : Below w2.heap.size w2 _ ∧ _ ∧ _ := (by assumption); refine (lists_nil _).mono ?_; rintro e w6 ⟨rfl, hB6⟩; have hS6 : Below w2.heap.size w2 w6 ∧ w6.cell? ⟨gr, 0, none⟩ = some (.slice A' 0 c') ∧ w6.cell? (ad.add (j * 2)) = some (.slice Ap xs.length cp) := ⟨hSw.1.trans (hB6.mono hSw.1.size), pw_cell_below hB6 hSw.2.1, pw_cell_below hB6 hSw.2.2⟩; clear hB6)
                      | (go_at_call 35; have hSw : Below w2.heap.size w2 _ ∧ _ ∧ _ := (by assumption); refine (left_any g h A5 0 c5 true _ (HC2.out.below hSw.1 HC2.out.lt)).mono ?_; rintro e w7 ⟨rfl, rfl⟩)
                      | (go_at_call 26; have hSw : Below w2.heap.size w2 _ ∧ _ ∧ _ := (by assumption); refine (kept_any wr.heap.size _ cp Ap xs _ ((hSw.1.block _ HL2.out.lt).trans HL2.out) (HRB.out.up (HB02.out.trans (hSw.1.mono HB02.out.size))) (by omega)).mono ?_; rintro e w8 ⟨rfl, hB8⟩; have hS8 : Below w2.heap.size w2 w8 ∧ w8.cell? ⟨gr, 0, none⟩ = some (.slice A' 0 c') ∧ w8.cell? (ad.add (j * 2)) = some (.slice Ap xs.length cp) := ⟨hSw.1.trans (hB8.mono hSw.1.size), pw_cell_below hB8 hSw.2.1, pw_cell_below hB8 hSw.2.2⟩; clear hB8))
                  have hb8 : ByteBlk w8 wr.heap.size (xs.length + 3) := Lent.bytes ((hS8.1.block _ HL2.out.lt).trans HL2.out) HRB.out.1 (by omega)
                  have hB08 : Below wr.heap.size wr w8 := HB12.out.trans (hS8.1.mono HB12.out.size)
                  have HF8 : Hid (Far wr w8 (· = wr.heap.size)) := Far.of_below hB08
                  have HOVR := Lib.hid (over_any wr.heap.size xs.length (xs.length + 3) w8 hb8 (by unfold maxLen; omega))
                  clear hb8 hB08 HL2 HC2 HS0 hS6 hSw hS8
                  go_wp2_with fail
                  refine HOVR.out.mono ?_
                  rintro e w9 ⟨rfl, hb9, ht9⟩
                  have hF9 : Far wr w9 (· = wr.heap.size) := HF8.out.grown ht9.1 (fun k e => by cases e; exact .inl rfl)
                  have HI9 : Hid (PuI w g gr h [] true (.slice A5 0 c5) SL SR A' c' w9) := HI.out.far (T := (· = wr.heap.size)) (fun k hk => by
                    subst hk
                    exact ⟨hc1s, by omega, by omega, fun hs => by have := (Q3.out _ hs).2.2.2; omega, fun hs => by have := (Q6.out _ hs).2.2.2.1; omega⟩) hF9
                  clear hF9 hb9 ht9 HOVR HF8
                  go_wp2_with fail
                  go_loopw [17] (fun v17 wi => v17 = .int .i64 0 ∧ wi = w9) (fun _ _ => 0)
                  case atStart => exact ⟨rfl, rfl⟩
                  case round =>
                    obtain ⟨rfl, rfl⟩ := hrel
                    go_wp2_with fail
                    go_roundw
                    case rel => exact ⟨j + 1, h, [], true, _, SL, SR, A', c', by omega, by go_num, by simp, HI9⟩
                    case measure => simp [intOf]; omega
                | false =>
                  have hI := HI.out
                  obtain ⟨eh, hcl⟩ := hI.2.2.2.2.2.2.2.1 rfl
                  subst eh
                  obtain ⟨q1, q2, q3, q4, q5, q6, q7, _, _, q10⟩ := hI
                  have lgW := q1.lt
                  have lrW := q4.lt
                  have hrb1 := HRB.out
                  have HLN := Lib.hid (lent_any wr.heap.size cp Ap xs wr (hrb1.up q10) (by omega))
                  have Q10 := Lib.hid q10
                  have HCL := Lib.hid hcl
                  have hc1s := q10.size
                  clear q1 q2 q3 q4 q5 q6 q10 hcl hrb1 hBI
                  go_wp2_with fail
                  refine HLN.out.mono ?_
                  rintro e w1 ⟨⟨rfl, hL1⟩, hB1⟩
                  obtain ⟨q1, q2, q3, _, _, _, _, _, _, _⟩ := HI.out
                  have hcp := cpush_any g (xs.length + 3) SL (some ⟨wr.heap.size, 0, none⟩) h xs lv w1 (q1.below hB1 q1.lt) (q2.keep (fun k hk hlt => hB1.block k hlt)) (fun k hk => ⟨(q3 k hk).2.1, by have := (q3 k hk).2.2.2; have := hB1.size; omega⟩)
                      ((hL1.rd0 HRB.out.1 (by omega)).mono (fun k hk _ => by subst hk; exact ⟨by omega, fun hs => by have := (q3 _ hs).2.2.2; omega⟩)) (by omega) (by omega)
                  clear q1 q2 q3
                  have HCP := Lib.hid hcp
                  have HL1 := Lib.hid hL1
                  have HB1 := Lib.hid hB1
                  clear hcp hL1 hB1 HLN
                  go_wp2_with fail
                  refine HCP.out.mono ?_
                  rintro e w2 ⟨v, lv', S1, S2, rfl, c2, o1, o2, h12, hSn, hF2⟩
                  have hlc := cutRun_le (h ++ xs) [] (by simp)
                  have hrest := rest_stays (h ++ xs)
                  have hcnt := cuts_count (h ++ xs)
                  have hall : cutRun [] (h ++ xs) = cutRun h xs := by rw [cutRun_append, HCL.out]; simp
                  have hne : ∀ l ∈ (cutRun [] (h ++ xs)).1, 0 < l.length := fun l hl => by have := ends_pos (cutRun_ends (h ++ xs) [] l hl); omega
                  have hlt2 := cut_rest_le h xs
                  rw [List.length_append] at hcnt
                  rw [hall] at hlc hrest hcnt hne
                  obtain ⟨pr, hpr⟩ : ∃ pr, cutRun h xs = pr := ⟨_, rfl⟩
                  obtain ⟨ps, rs⟩ := pr
                  rw [hpr] at c2 o1 o2 hlc hrest hcnt hne hall hlt2
                  simp only at c2 o1 o2 hlc hrest hcnt hne hlt2
                  have hs1 := HB1.out.size
                  have hs2 := hF2.size
                  have hB2 : Below w.heap.size w w2 := (Q10.out.trans (HB1.out.mono hc1s)).trans (hF2.below (by omega) (fun k hk => by
                    rcases hk with hk | hk
                    · omega
                    · exact (HI.out.2.2.1 k hk).1))
                  obtain ⟨_, _, q3, q4, q5, q6, _⟩ := HI.out
                  have hrp := rpush_any gr A' Ap c' cp h xs w2 ((hF2.same gr (by omega) (by rintro (h | h); omega; exact (q3 _ h).2.2.1 rfl)).trans ((HB1.out.block gr (by omega)).trans q4))
                    ((q5.keep (fun k hk hlt => HB1.out.block k hlt)).keep (fun k hk hlt => hF2.same k hlt (by rintro (h | h); exact (q6 k hk).2.1 h; exact (q6 k hk).2.2.2.2 h))).rdB (HRB.out.up hB2) (by omega) (h ++ xs) rfl
                  unfold RPushR at hrp
                  rw [hall] at hrp
                  have hcp2 := pw_cell_below hB2 HC0.out
                  have HRP := Lib.hid hrp
                  have HC2 := Lib.hid c2
                  have HO1 := Lib.hid o1
                  have HO2 := Lib.hid o2
                  have H12 := Lib.hid h12
                  have HSN' := Lib.hid hSn
                  have HF2 := Lib.hid hF2
                  have HB2 := Lib.hid hB2
                  have HREST := Lib.hid hrest
                  have HNE := Lib.hid hne
                  have HLC := Lib.hid hlc
                  obtain ⟨Av, cv, ev⟩ := o1.shape
                  subst ev
                  clear hrp c2 o1 o2 h12 hSn hF2 hB2 hrest hne hall hpr hlc q3 q4 q5 q6 HCP
                  go_wp2_with fail
                  refine HRP.out.mono ?_
                  rintro e w3 ⟨v2, A2, cr, rfl, hol, hbr, hcr, hrr, hF3⟩
                  obtain ⟨A3, c3, e3⟩ := hol.shape
                  subst e3
                  have hs3 := hF3.size
                  obtain ⟨SL', SR', T, hI3, hT, hTq, ho3, hL3⟩ := pu_push HI.out HL1.out HB1.out HC2.out HO1.out HO2.out H12.out HSN'.out HF2.out hbr hrr hF3 hcr HREST.out hg hgw (by omega)
                  obtain ⟨A4, c4, e4, _, hr1⟩ := ho3.rdl (fun l hl => by have := HLC.out.1 l hl; omega)
                  injection e4 with e4 _ e4c
                  subst e4 e4c
                  obtain ⟨A4, c4, e4, _, hr2⟩ := hol.rdl (fun l hl => by have := HLC.out.1 l hl; omega)
                  injection e4 with e4 _ e4c
                  subst e4 e4c
                  have hB3 := hI3.2.2.2.2.2.2.2.2.2
                  have hcg : w3.cell? ⟨gr, 0, none⟩ = some (.slice A2 rs.length cr) := hbr.cell 0
                  have hcp3 := pw_cell_below hB3 HC0.out
                  obtain ⟨A5, c5, e5⟩ := hI3.2.1.shape
                  subst e5
                  have HS0 : Hid (Below w3.heap.size w3 w3.drew ∧ w3.drew.cell? ⟨gr, 0, none⟩ = some (.slice A2 rs.length cr) ∧ w3.drew.cell? (ad.add (j * 2)) = some (.slice Ap xs.length cp)) := ⟨(Below.refl _ _).drew, hcg, hcp3⟩
                  have HI3 := Lib.hid hI3
                  have HT := Lib.hid hT
                  have HTQ := Lib.hid hTq
                  have HO3 := Lib.hid ho3
                  have HL3 := Lib.hid hL3
                  have HR1 := Lib.hid hr1
                  have HR2 := Lib.hid hr2
                  have HB3 := Lib.hid hB3
                  clear hol hbr hrr hF3 hI3 hT hTq ho3 hL3 hr1 hr2 hB3 hcg hcp3 hcp2 HI HL1 HB1 HC2 HO1 HO2 H12 HSN' HF2 HB2 HREST HRP hc0 Q10 HCL
                  go_wp2_with fail
                  go_region_held3 (fun W => Below w3.heap.size w3 W ∧ W.cell? ⟨gr, 0, none⟩ = some (.slice A2 rs.length cr) ∧ W.cell? (ad.add (j * 2)) = some (.slice Ap xs.length cp)) (first | assumption | exact HS0.out)
                    (first
                      | (go_at_call 45; have hSw : Below w3.heap.size w3 _ ∧ _ ∧ _ := (by assumption); refine (sameLists_any _ _ Av A3 ps ps _ (HR1.out.below hSw.1) (HR2.out.below hSw.1) (by omega) (by omega)).mono ?_; rintro e w6 ⟨rfl, hB6⟩; rw [decide_eq_true rfl]; have hS6 : Below w3.heap.size w3 w6 ∧ w6.cell? ⟨gr, 0, none⟩ = some (.slice A2 rs.length cr) ∧ w6.cell? (ad.add (j * 2)) = some (.slice Ap xs.length cp) := ⟨hSw.1.trans (hB6.mono hSw.1.size), pw_cell_below hB6 hSw.2.1, pw_cell_below hB6 hSw.2.2⟩; clear hB6)
                      | (go_at_call 35; have hSw : Below w3.heap.size w3 _ ∧ _ ∧ _ := (by assumption); refine (left_any g rs A5 _ c5 false _ (HI3.out.1.below hSw.1 (by have := HI3.out.1.lt; exact this))).mono ?_; rintro e w7 ⟨rfl, rfl⟩)
                      | (go_at_call 26; have hSw : Below w3.heap.size w3 _ ∧ _ ∧ _ := (by assumption); refine (kept_any wr.heap.size _ cp Ap xs _ ((hSw.1.block _ HL3.out.lt).trans HL3.out) (HRB.out.up (HB3.out.trans (hSw.1.mono HB3.out.size))) (by omega)).mono ?_; rintro e w8 ⟨rfl, hB8⟩; have hS8 : Below w3.heap.size w3 w8 ∧ w8.cell? ⟨gr, 0, none⟩ = some (.slice A2 rs.length cr) ∧ w8.cell? (ad.add (j * 2)) = some (.slice Ap xs.length cp) := ⟨hSw.1.trans (hB8.mono hSw.1.size), pw_cell_below hB8 hSw.2.1, pw_cell_below hB8 hSw.2.2⟩; clear hB8))
                  have hF8 : Far w3 w8 T := Far.of_below hS8.1
                  have hb8 : ByteBlk w8 wr.heap.size (xs.length + 3) := Lent.bytes ((hS8.1.block _ HL3.out.lt).trans HL3.out) HRB.out.1 (by omega)
                  have hov8 := (HO3.out.keep (w' := w8) (fun k hk hlt => hS8.1.block k hlt)).ov HNE.out
                  have HF8 := Lib.hid hF8
                  have HB8 := Lib.hid hb8
                  have HOV8 := Lib.hid hov8
                  have HOVR := Lib.hid (over_any wr.heap.size xs.length (xs.length + 3) w8 hb8 (by unfold maxLen; omega))
                  clear hF8 hb8 hov8 HO3 HL3 HR1 HR2 HS0 hS6 hSw hS8
                  go_wp2_with fail
                  refine HOVR.out.mono ?_
                  rintro e w9 ⟨rfl, hb9, ht9⟩
                  have HOV9 := Lib.hid (HOV8.out.over HB8.out hb9 ht9)
                  have HF9 := Lib.hid (HF8.out.grown ht9.1 (fun k e => by cases e; exact .inl HTQ.out))
                  clear hb9 ht9 HOVR HOV8 HF8 HB8
                  go_wp2_with fail
                  go_loopw [17] (fun v17 wi => ∃ k : Nat, k ≤ ps.length ∧ v17 = .int .i64 k ∧ Hid (OvL wi T Av ps.length) ∧ Hid (Far w3 wi T)) (fun v17 _ => ps.length - (intOf v17).toNat)
                  case atStart => exact ⟨0, by omega, rfl, HOV9, HF9⟩
                  case round =>
                    obtain ⟨k, hk, rfl, HOi, HFi⟩ := hrel
                    by_cases hkl : k < ps.length
                    · obtain ⟨adv, gb, m, c, rfl, hcell, hsg, hbk, hm, hnext⟩ := HOi.out.at_ k hkl
                      have HN := Lib.hid hnext
                      have HSG := Lib.hid hsg
                      have HOB := Lib.hid (over_any gb m c wr hbk hm)
                      clear hnext hbk hm hsg
                      go_wp2_with fail
                      refine HOB.out.mono ?_
                      rintro e w10 ⟨rfl, hb10, ht10⟩
                      have HO10 := Lib.hid (HN.out w10 hb10 ht10)
                      have HF10 := Lib.hid (HFi.out.grown ht10.1 (fun j e => by cases e; exact .inl HSG.out))
                      clear hb10 ht10
                      go_wp2_with fail
                      go_roundw
                      case rel => exact ⟨k + 1, by omega, by go_num, HO10, HF10⟩
                      case measure => simp [intOf]; omega
                    · go_wp2_with fail
                      go_roundw
                      case rel => exact ⟨j + 1, rs, rs, false, _, SL', SR', A2, cr, by omega, by go_num, by rw [HSN.out]; omega, HI3.out.far HT.out HFi.out⟩
                      case measure => simp [intOf]; omega
            · have dj : decide ((j : Int) < (ls.length : Int)) = false := by simp; omega
              go_wp2_with fail
              refine (awake6_any wr).mono ?_
              rintro e w3 ⟨rfl, hB3⟩
              have hBI := HI.out.2.2.2.2.2.2.2.2.2
              go_wp2_with fail
              go_ret
              exact ⟨rfl, hBI.trans (hB3.mono hBI.size)⟩
        · have d8 : decide ((8000 : Int) < (x : Int)) = true := by simp; omega
          clear hx hc
          go_wp2_with fail
          refine (new_any w).mono ?_
          rintro e w1 ⟨g, rfl, hg, hc1, hB1⟩
          have HB1 := Lib.hid (hB1.alloc (show w.heap.size ≤ w1.heap.size from hB1.size) (.cells #[.slice none 0 0, .bool false] 65))
          clear hc1 hB1
          go_wp2_with fail
          go_ret
          exact ⟨rfl, HB1.out⟩
      · have d60 : decide ((60 : Int) < (ls.length : Int)) = true := by simp; omega
        have d61 : decide ((i : Int) < 61) = false := by simp; omega
        clear hx hc
        by_cases hin : i < ls.length
        · have d0 : decide ((i : Int) < (ls.length : Int)) = true := by simp; omega
          go_wp2_with fail
          refine (new_any w).mono ?_
          rintro e w1 ⟨g, rfl, hg, hc1, hB1⟩
          have HB1 := Lib.hid (hB1.alloc (show w.heap.size ≤ w1.heap.size from hB1.size) (.cells #[.slice none 0 0, .bool false] 65))
          clear hc1 hB1
          go_wp2_with fail
          go_ret
          exact ⟨rfl, HB1.out⟩
        · have d0 : decide ((i : Int) < (ls.length : Int)) = false := by simp; omega
          go_wp2_with fail
          refine (new_any w).mono ?_
          rintro e w1 ⟨g, rfl, hg, hc1, hB1⟩
          have HB1 := Lib.hid (hB1.alloc (show w.heap.size ≤ w1.heap.size from hB1.size) (.cells #[.slice none 0 0, .bool false] 65))
          clear hc1 hB1
          go_wp2_with fail
          go_ret
          exact ⟨rfl, HB1.out⟩
end Go.Proofs.Ytneieogpdjlnbaa
