/- The walk of layer 6's law ChunkWhole: it returns true and writes nothing that was there. Conditions: none beyond how the arguments lie in memory. -/
import Derived.Test.YtneieogpdjlnbaaLawsG
import Derived.Test.YtneieogpdjlnbaaPlainD
set_option linter.unusedVariables false
set_option linter.unusedSimpArgs false
namespace Go.Proofs.Ytneieogpdjlnbaa
open Go Go.RowKit Go.Proofs.YtneieogpdjlnbaaW.PrintWords

set_option maxRecDepth 100000 in
set_option maxHeartbeats 3200000 in
theorem whole_walk (A : Option Addr) (cap : Nat) (bs : List Int) (w : World) (hcap : bs.length ≤ cap) (hr : RdB w w.heap.size A bs) (hl : bs.length ≤ 10000) :
    Calls Try.prog 9 #[.slice A bs.length cap] w fun e w' => e = .returned (.bool true) ∧ Below w.heap.size w w' := by
  have hd : decide ((10000 : Int) < (bs.length : Int)) = false := by simp; omega
  have HR := Lib.hid hr
  clear hr
  go_enter Try.func9, Try.ntmps9
  go_wp2_with fail
  refine (awake6_any w).mono ?_
  rintro e w1 ⟨rfl, hB1⟩
  have HB1 := Lib.hid hB1
  clear hB1
  go_wp2_with fail
  clear hd
  refine (split_any (· < w1.heap.size) cap A bs w1 (HR.out.up HB1.out).rdS (by omega) hcap).mono ?_
  rintro e w2 ⟨v2, rfl, ho2, hB2⟩
  obtain ⟨A1, c1, rfl, hc1, hrl⟩ := ho2.rdl (fun l h => by have := split_len bs h; omega)
  have hcnt := split_count bs
  obtain ⟨ls, hls⟩ : ∃ ls, splitB bs = ls := ⟨_, rfl⟩
  have hflat : ls.flatten = bs := by rw [← hls]; exact split_flat bs
  rw [hls] at hrl hcnt hc1 ⊢
  have HB2 := Lib.hid (HB1.out.trans (hB2.mono HB1.out.size))
  have HLS := Lib.hid hls
  have HRL := Lib.hid hrl
  have HFL := Lib.hid hflat
  have HR2 := Lib.hid (HR.out.up (HB1.out.trans (hB2.mono HB1.out.size)))
  clear ho2 hB2 hrl hls hflat HR HB1
  go_wp2_with fail
  refine (together_any c1 A1 ls w2 HRL.out (by rw [HFL.out]; omega) (by omega)).mono ?_
  rintro e w3 ⟨⟨v3, rfl, ho3⟩, hB3⟩
  rw [HFL.out] at ho3
  obtain ⟨A3, c3, rfl, _, hr3⟩ := ho3.rd (by omega)
  have HB3 := Lib.hid (HB2.out.trans (hB3.mono HB2.out.size))
  have HRL3 := Lib.hid (HRL.out.below hB3)
  have HR3 := Lib.hid hr3.rdB
  have HR2' := Lib.hid (HR2.out.up hB3)
  clear ho3 hr3 hB3 HR2 HRL HB2
  go_wp2_with fail
  refine (same_any _ _ c3 cap A3 A bs bs w3 HR3.out HR2'.out).mono ?_
  rintro e w3' ⟨rfl, rfl⟩
  rw [decide_eq_true rfl]
  clear HR3 HR2'
  go_wp2_with fail
  go_loopw [5] (fun i wr => ∃ k : Nat, k ≤ ls.length ∧ i = .int .i64 k ∧ Hid (Below w3.heap.size w3 wr)) (fun i _ => ls.length - (intOf i).toNat)
  case atStart => exact ⟨0, by omega, rfl, Below.refl _ _⟩
  case round =>
    obtain ⟨k, hk, rfl, HB⟩ := hrel
    by_cases hlt : k < ls.length
    · obtain ⟨ad, A', c', rfl, hcell, hcl', hrb⟩ := (HRL3.out.below HB.out) k hlt
      obtain ⟨l, hl'⟩ : ∃ l, ls.getD k [] = l := ⟨_, rfl⟩
      rw [hl'] at hcell hcl' hrb
      have hmem : l ∈ splitB bs := by rw [HLS.out, ← hl']; exact getD_mem [] hlt
      have hpos := split_ne bs hmem
      have hle := split_le bs hmem
      have hno := split_noEnd bs hmem
      have hend : k + 1 < ls.length → endsB l = true := fun h => by rw [← hl', ← HLS.out]; exact split_ended bs k (by rw [HLS.out]; exact h)
      have h64 : k + 1 < ls.length → 64 ≤ l.length := fun h => ends_pos (hend h)
      have HNO := Lib.hid hno
      have HEND := Lib.hid hend
      have HRB := Lib.hid hrb
      have HCL := Lib.hid hcl'
      obtain ⟨m, hm⟩ : ∃ m, l.length = m := ⟨_, rfl⟩
      rw [hm] at hcell hpos hle h64
      have HM := Lib.hid hm
      clear hl' hmem hno hend hrb hcl' hm
      have d1 : decide ((m : Int) < 1) = false := by simp; omega
      have d2 : decide ((1024 : Int) < (m : Int)) = false := by simp; omega
      have hinner : ∀ (sB : Bool), decide ((k : Int) < (ls.length : Int) - 1) = sB → True := fun _ _ => trivial
      clear hinner
      by_cases hk1 : k + 1 < ls.length
      · have dk : decide ((k : Int) < (ls.length : Int) - 1) = true := by simp; omega
        have d4 : decide ((m : Int) < 64) = false := by have := h64 hk1; simp; omega
        go_wp2_with fail
        clear d1 d2 d4
        go_loop [7] (fun i => ∃ j : Nat, 64 ≤ j ∧ (j ≤ m + 1 ∨ j = 64) ∧ i = .int .i64 j) (fun i => m + 1 - (intOf i).toNat)
        case atStart => exact ⟨64, by omega, by omega, rfl⟩
        case round =>
          obtain ⟨j, hj0, hj1, rfl⟩ := hrel
          by_cases hjm : j ≤ m
          · obtain ⟨ys, hys⟩ : ∃ ys, (l.take j).drop (j - 16) = ys := ⟨_, rfl⟩
            obtain ⟨A2, c2, hcut, _, hcr⟩ := cutM A' c' l ys ((j : Int) - 16) (j : Int) (by omega) (by omega) (by rw [HM.out]; omega) HCL.out (by rw [← hys, show ((j : Int)).toNat = j by omega, show ((j : Int) - 16).toNat = j - 16 by omega])
            rw [HM.out] at hcut
            have hrd := hcr _ _ HRB.out
            have hsr := sumB_range ys
            obtain ⟨s, hs⟩ : ∃ s, sumB ys = s := ⟨_, rfl⟩
            have hsum := sum_any _ c2 A2 ys _ hrd
            rw [hs] at hsum hsr
            obtain ⟨hs0, hs1⟩ := hsr
            obtain ⟨q, hq⟩ : ∃ q, s / 16777216 = q := ⟨_, rfl⟩
            have hq1 : j < m → ¬ q = 0 := fun h => by
              have := says_in HNO.out (by rw [HM.out]; exact hle) j hj0 (by rw [HM.out]; exact h)
              rwa [hys, hs, hq] at this
            have hq2 : j = m → k + 1 < ls.length → m ≠ 1024 → q = 0 := fun h1 h2 h3 => by
              have := (says_at (HEND.out h2) (by rw [HM.out]; exact h3)).2
              rw [HM.out] at this
              rw [← hq, ← hs, ← hys, h1, List.take_of_length_le (by rw [HM.out]; omega)]
              exact this
            have HSUM := Lib.hid hsum
            clear hcr hrd hys hsum
            have HQ1 := Lib.hid hq1
            have HQ2 := Lib.hid hq2
            clear hq1 hq2
            go_wp2_with fail
            refine HSUM.out.mono ?_
            rintro e w9 ⟨rfl, rfl⟩
            have HS := Lib.hid hs
            clear hs
            by_cases hj : j < m
            · have b8 : (q == 0) = false := beq_eq_false_iff_ne.2 (HQ1.out hj)
              have bj : ((j : Int) == (m : Int)) = false := beq_eq_false_iff_ne.2 (by omega)
              have bj2 : (j == m) = false := beq_eq_false_iff_ne.2 (by omega)
              have djm : decide ((j : Int) < (m : Int)) = true := by simp; omega
              go_wp2_with fail
              go_round
              case rel => exact ⟨j + 1, by omega, by omega, by go_num⟩
              case measure => first | (simp [intOf]; done) | (simp [intOf]; omega)
            · have e : j = m := by omega
              subst e
              have bj : ((j : Int) == (j : Int)) = true := by simp
              have djm : decide ((j : Int) < (j : Int)) = false := by simp
              by_cases hq0 : q = 0
              · have b8 : (q == 0) = true := beq_iff_eq.2 hq0
                clear hq0
                go_wp2_with fail
                go_round
                case rel => exact ⟨j + 1, by omega, by omega, by go_num⟩
                case measure => first | (simp [intOf]; done) | (simp [intOf]; omega)
              · have b8 : (q == 0) = false := beq_eq_false_iff_ne.2 hq0
                have d24 : decide ((j : Int) < 1024) = false := by
                  have : j = 1024 := by
                    rcases Nat.decEq j 1024 with h | h
                    · exact absurd (HQ2.out rfl hk1 h) hq0
                    · exact h
                  simp; omega
                clear hq0
                go_wp2_with fail
                go_round
                case rel => exact ⟨j + 1, by omega, by omega, by go_num⟩
                case measure => first | (simp [intOf]; done) | (simp [intOf]; omega)
          · go_wp2_with fail
            go_roundw
            case rel => exact ⟨k + 1, by omega, by go_num, HB.out⟩
            case measure => first | (simp [intOf]; done) | (simp [intOf]; omega)
      · have dk : decide ((k : Int) < (ls.length : Int) - 1) = false := by simp; omega
        go_wp2_with fail
        clear d1 d2 
        go_loop [7] (fun i => ∃ j : Nat, 64 ≤ j ∧ (j ≤ m + 1 ∨ j = 64) ∧ i = .int .i64 j) (fun i => m + 1 - (intOf i).toNat)
        case atStart => exact ⟨64, by omega, by omega, rfl⟩
        case round =>
          obtain ⟨j, hj0, hj1, rfl⟩ := hrel
          by_cases hjm : j ≤ m
          · obtain ⟨ys, hys⟩ : ∃ ys, (l.take j).drop (j - 16) = ys := ⟨_, rfl⟩
            obtain ⟨A2, c2, hcut, _, hcr⟩ := cutM A' c' l ys ((j : Int) - 16) (j : Int) (by omega) (by omega) (by rw [HM.out]; omega) HCL.out (by rw [← hys, show ((j : Int)).toNat = j by omega, show ((j : Int) - 16).toNat = j - 16 by omega])
            rw [HM.out] at hcut
            have hrd := hcr _ _ HRB.out
            have hsr := sumB_range ys
            obtain ⟨s, hs⟩ : ∃ s, sumB ys = s := ⟨_, rfl⟩
            have hsum := sum_any _ c2 A2 ys _ hrd
            rw [hs] at hsum hsr
            obtain ⟨hs0, hs1⟩ := hsr
            obtain ⟨q, hq⟩ : ∃ q, s / 16777216 = q := ⟨_, rfl⟩
            have hq1 : j < m → ¬ q = 0 := fun h => by
              have := says_in HNO.out (by rw [HM.out]; exact hle) j hj0 (by rw [HM.out]; exact h)
              rwa [hys, hs, hq] at this
            have hq2 : j = m → k + 1 < ls.length → m ≠ 1024 → q = 0 := fun h1 h2 h3 => by
              have := (says_at (HEND.out h2) (by rw [HM.out]; exact h3)).2
              rw [HM.out] at this
              rw [← hq, ← hs, ← hys, h1, List.take_of_length_le (by rw [HM.out]; omega)]
              exact this
            have HSUM := Lib.hid hsum
            clear hcr hrd hys hsum
            have HQ1 := Lib.hid hq1
            have HQ2 := Lib.hid hq2
            clear hq1 hq2
            go_wp2_with fail
            refine HSUM.out.mono ?_
            rintro e w9 ⟨rfl, rfl⟩
            have HS := Lib.hid hs
            clear hs
            by_cases hj : j < m
            · have b8 : (q == 0) = false := beq_eq_false_iff_ne.2 (HQ1.out hj)
              have bj : ((j : Int) == (m : Int)) = false := beq_eq_false_iff_ne.2 (by omega)
              have bj2 : (j == m) = false := beq_eq_false_iff_ne.2 (by omega)
              have djm : decide ((j : Int) < (m : Int)) = true := by simp; omega
              go_wp2_with fail
              go_round
              case rel => exact ⟨j + 1, by omega, by omega, by go_num⟩
              case measure => first | (simp [intOf]; done) | (simp [intOf]; omega)
            · have e : j = m := by omega
              subst e
              have bj : ((j : Int) == (j : Int)) = true := by simp
              have djm : decide ((j : Int) < (j : Int)) = false := by simp
              by_cases hq0 : q = 0
              · have b8 : (q == 0) = true := beq_iff_eq.2 hq0
                clear hq0
                go_wp2_with fail
                go_round
                case rel => exact ⟨j + 1, by omega, by omega, by go_num⟩
                case measure => first | (simp [intOf]; done) | (simp [intOf]; omega)
              · have b8 : (q == 0) = false := beq_eq_false_iff_ne.2 hq0
                clear hq0
                go_wp2_with fail
                go_round
                case rel => exact ⟨j + 1, by omega, by omega, by go_num⟩
                case measure => first | (simp [intOf]; done) | (simp [intOf]; omega)
          · go_wp2_with fail
            go_roundw
            case rel => exact ⟨k + 1, by omega, by go_num, HB.out⟩
            case measure => first | (simp [intOf]; done) | (simp [intOf]; omega)
    · go_wp2_with fail
      go_ret
      exact ⟨rfl, HB3.out.trans (HB.out.mono HB3.out.size)⟩

set_option maxHeartbeats 800000 in
theorem ChunkWhole_walk (a0 : Option Addr) (len0 cap0 : Nat) (z0 : List Int) (w : World) (w0 : IsRow .u8 w a0 len0 cap0 z0) :
    Calls Try.prog 9 #[.slice a0 len0 cap0] w fun e w' => e = .returned (.bool true) ∧ Below w.heap.size w w' := by
  by_cases hn : len0 ≤ 10000
  · obtain ⟨xs, rfl, hc, hr⟩ := w0.rd (by omega)
    exact whole_walk _ _ _ _ hc hr (by omega)
  · have hd : decide ((10000 : Int) < (len0 : Int)) = true := by simp; omega
    have hl := w0.len
    go_enter Try.func9, Try.ntmps9
    go_wp2_with fail
    refine (awake6_any w).mono ?_
    rintro e w1 ⟨rfl, hB1⟩
    go_wp2_with fail
    go_ret
    exact ⟨rfl, hB1⟩
end Go.Proofs.Ytneieogpdjlnbaa
