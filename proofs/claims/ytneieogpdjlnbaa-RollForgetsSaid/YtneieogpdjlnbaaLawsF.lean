/- The walk of layer 5's law RollForgets. Conditions: none beyond how the arguments lie in memory. -/
import Derived.Test.YtneieogpdjlnbaaLawsA
set_option linter.unusedVariables false
set_option linter.unusedSimpArgs false
namespace Go.Proofs.Ytneieogpdjlnbaa
open Go.RowKit Go.Proofs.YtneieogpdjlnbaaW.PrintWords

theorem last16_behind (a b : List Int) (h : 16 ≤ b.length) : last16 (a ++ b) = last16 b := by
  unfold last16
  rw [List.length_append, List.drop_append, show a.length + b.length - 16 - a.length = b.length - 16 from by omega, List.drop_of_length_le (by omega)]
  rfl
/-- What New hands back. -/
def NewR (w : World) (e : Ending) (w' : World) : Prop := ∃ g, e = .returned (.pointer (some ⟨g, 0, none⟩)) ∧ w.heap.size ≤ g ∧ Rol w' g 53 [] [] ∧ Below w.heap.size w w'
theorem rnew_R (w : World) : Calls Try.prog 37 #[] w fun e w' => NewR w e w' := by
  refine (rnew_any w).mono ?_
  rintro e w' ⟨rfl, hw⟩
  exact ⟨_, rfl, Nat.le_refl _, by rw [hw]; exact Rol.new w, by rw [hw]; exact (Below.refl _ _).alloc (Nat.le_refl _) _⟩
theorem Rol.drew {w : World} {g t : Nat} {h : List Int} {rest : List Value} (hr : Rol w g t h rest) : Rol w.drew g t h rest := hr

/-- The two rollers, and that nothing old has turned. -/
def TwoR (w wr : World) (gx gy : Nat) (h h' : List Int) : Prop := Rol wr gx 53 h [] ∧ Rol wr gy 53 h' [] ∧ Below w.heap.size w wr
theorem TwoR.pushX {w wr w' : World} {gx gy : Nat} {h h' : List Int} {c : Int} (ht : TwoR w wr gx gy h h') (hg : w.heap.size ≤ gx) (hne : gx ≠ gy) (hr : Rol w' gx 53 (h ++ [c]) []) (hT : Turned wr w' gx) : TwoR w w' gx gy (h ++ [c]) h' :=
  ⟨hr, ht.2.1.grown hT.1 (by simp; omega), hT.below ht.2.2 hg ht.2.2.size⟩
theorem TwoR.pushY {w wr w' : World} {gx gy : Nat} {h h' : List Int} {c : Int} (ht : TwoR w wr gx gy h h') (hg : w.heap.size ≤ gy) (hne : gx ≠ gy) (hr : Rol w' gy 53 (h' ++ [c]) []) (hT : Turned wr w' gy) : TwoR w w' gx gy h (h' ++ [c]) :=
  ⟨ht.1.grown hT.1 (by simp; omega), hr, hT.below ht.2.2 hg ht.2.2.size⟩
theorem TwoR.drew {w wr : World} {gx gy : Nat} {h h' : List Int} (ht : TwoR w wr gx gy h h') : TwoR w wr.drew gx gy h h' := ⟨ht.1, ht.2.1, ht.2.2.drew⟩

set_option maxHeartbeats 3200000 in
theorem forgets_walk (A A' A'' : Option Addr) (cap cap' cap'' : Nat) (xs ys zs : List Int) (w : World) (hx : RdB w w.heap.size A xs) (hy : RdB w w.heap.size A' ys) (hz : RdB w w.heap.size A'' zs)
    (hlx : xs.length ≤ 500) (hly : ys.length ≤ 500) (hlz : zs.length ≤ 500) (hlo : 16 ≤ zs.length) (hcz : zs.length ≤ cap'') :
    Calls Try.prog 11 #[.slice A xs.length cap, .slice A' ys.length cap', .slice A'' zs.length cap''] w fun e w' => e = .returned (.bool true) ∧ Below w.heap.size w w' := by
  have HX := Lib.hid hx
  have HY := Lib.hid hy
  have HZ := Lib.hid hz
  clear hx hy hz
  go_enter Try.func11, Try.ntmps11
  go_wp2_with fail
  refine (awake5_any _).mono ?_
  rintro e w1 ⟨rfl, hB⟩
  have HB := Lib.hid hB
  clear hB
  go_wp2_with fail
  refine (rnew_R _).mono ?_
  rintro e w2 ⟨gx, rfl, hgx, hrx, hB2⟩
  have HG := Lib.hid (Nat.le_trans HB.out.size hgx)
  have HB2 := Lib.hid (HB.out.trans (hB2.mono HB.out.size))
  have HRX := Lib.hid hrx
  clear hgx hrx hB2
  go_wp2_with fail
  refine (rnew_R _).mono ?_
  rintro e w3 ⟨gy, rfl, hgy, hry, hB3⟩
  have HGy := Lib.hid (Nat.le_trans HB2.out.size hgy)
  have hne : gx ≠ gy := by have := HRX.out.lt; omega
  have HNE := Lib.hid hne
  have HT : Hid (TwoR w w3 gx gy (xs.take 0) []) := ⟨HRX.out.below hB3 HRX.out.lt, hry, HB2.out.trans (hB3.mono HB2.out.size)⟩
  clear hgy hry hB3 hne HRX HB2 HB
  go_wp2_with fail
  go_loopw [10] (fun i wr => ∃ k : Nat, k ≤ xs.length ∧ i = .int .i64 k ∧ Hid (TwoR w wr gx gy (xs.take k) [])) (fun i _ => xs.length - (intOf i).toNat)
  case atStart => exact ⟨0, by omega, rfl, HT⟩
  case round =>
    obtain ⟨k, hk, rfl, HTr⟩ := hrel
    by_cases hlt : k < xs.length
    · obtain ⟨ad, rfl, _, hcell⟩ := (HX.out.below HTr.out.2.2).2.2 (by omega)
      have hc := hcell k hlt
      obtain ⟨c0, c1⟩ := HX.out.1.at_ k
      have ht := Lib.hid (take_snoc xs k hlt)
      obtain ⟨c, hce⟩ : ∃ c, xs.getD k 0 = c := ⟨_, rfl⟩
      rw [hce] at hc c0 c1 ht
      clear hcell hce
      go_wp2_with fail
      refine (push_any _ _ _ _ _ _ c0 c1 HTr.out.1).mono ?_
      rintro e w4 ⟨rfl, hr4, hT4⟩
      have h4 := HTr.out.pushX HG.out HNE.out hr4 hT4
      rw [ht.out] at h4
      have H4 := Lib.hid h4
      clear h4 hr4 hT4
      go_wp2_with fail
      go_roundw
      case rel => exact ⟨k + 1, by omega, by go_num, H4⟩
      case measure => simp [intOf]; omega
    · have HT2 : Hid (TwoR w wr gx gy xs (ys.take 0)) := by have := HTr.out; rw [List.take_of_length_le (by omega)] at this; exact this
      go_wp2_with fail
      clear hlt hk
      go_loopw [11] (fun i wr => ∃ k : Nat, k ≤ ys.length ∧ i = .int .i64 k ∧ Hid (TwoR w wr gx gy xs (ys.take k))) (fun i _ => ys.length - (intOf i).toNat)
      case atStart => exact ⟨0, by omega, rfl, HT2⟩
      case round =>
        obtain ⟨k, hk, rfl, HTr⟩ := hrel
        by_cases hlt : k < ys.length
        · obtain ⟨ad, rfl, _, hcell⟩ := (HY.out.below HTr.out.2.2).2.2 (by omega)
          have hc := hcell k hlt
          obtain ⟨c0, c1⟩ := HY.out.1.at_ k
          have ht := Lib.hid (take_snoc ys k hlt)
          obtain ⟨c, hce⟩ : ∃ c, ys.getD k 0 = c := ⟨_, rfl⟩
          rw [hce] at hc c0 c1 ht
          clear hcell hce
          go_wp2_with fail
          refine (push_any _ _ _ _ _ _ c0 c1 HTr.out.2.1).mono ?_
          rintro e w4 ⟨rfl, hr4, hT4⟩
          have h4 := HTr.out.pushY HGy.out HNE.out hr4 hT4
          rw [ht.out] at h4
          have H4 := Lib.hid h4
          clear h4 hr4 hT4
          go_wp2_with fail
          go_roundw
          case rel => exact ⟨k + 1, by omega, by go_num, H4⟩
          case measure => simp [intOf]; omega
        · go_wp2_with fail
          have HT3 : Hid (TwoR w wr gx gy (xs ++ zs.take 0) (ys ++ zs.take 0)) := by
            have := HTr.out
            rw [List.take_of_length_le (by omega)] at this
            rw [List.take_zero, List.append_nil, List.append_nil]
            exact this
          clear hlt hk
          go_loopw [12] (fun i wr => ∃ k : Nat, k ≤ zs.length ∧ i = .int .i64 k ∧ Hid (TwoR w wr gx gy (xs ++ zs.take k) (ys ++ zs.take k))) (fun i _ => zs.length - (intOf i).toNat)
          case atStart => exact ⟨0, by omega, rfl, HT3⟩
          case round =>
            obtain ⟨k, hk, rfl, HTr⟩ := hrel
            by_cases hlt : k < zs.length
            · obtain ⟨ad, rfl, hadlt, hcell⟩ := (HZ.out.below HTr.out.2.2).2.2 (by omega)
              have hc := hcell k hlt
              obtain ⟨c0, c1⟩ := HZ.out.1.at_ k
              have htx : (xs ++ zs.take k) ++ [zs.getD k 0] = xs ++ zs.take (k + 1) := by rw [List.append_assoc, take_snoc zs k hlt]
              have hty : (ys ++ zs.take k) ++ [zs.getD k 0] = ys ++ zs.take (k + 1) := by rw [List.append_assoc, take_snoc zs k hlt]
              have HTX := Lib.hid htx
              have HTY := Lib.hid hty
              obtain ⟨c, hce⟩ : ∃ c, zs.getD k 0 = c := ⟨_, rfl⟩
              rw [hce] at hc c0 c1 HTX HTY
              have hda : ad.block ≠ gx := by have := HG.out; omega
              have hda' : ad.block ≠ gy := by have := HGy.out; omega
              have HDA := Lib.hid hda
              have HDA' := Lib.hid hda'
              clear hcell hce htx hty hda hda'
              have keepX : ∀ (W W' : World), W.cell? (ad.add k) = some (.int .u8 c) → Turned W W' gx → W'.cell? (ad.add k) = some (.int .u8 c) := fun W W' h hT => hT.1.cell h (by rw [block_of_add]; simp; exact HDA.out)
              have keepY : ∀ (W W' : World), W.cell? (ad.add k) = some (.int .u8 c) → Turned W W' gy → W'.cell? (ad.add k) = some (.int .u8 c) := fun W W' h hT => hT.1.cell h (by rw [block_of_add]; simp; exact HDA'.out)
              have KX := Lib.hid keepX
              have KY := Lib.hid keepY
              have hkI : (k : Int) < (zs.length : Int) := by omega
              have HTd : Hid (TwoR w wr.drew gx gy (xs ++ zs.take k) (ys ++ zs.take k)) := HTr.out.drew
              clear keepX keepY
              go_wp2_with fail
              go_region_held3 (fun W => W.cell? (ad.add k) = some (.int .u8 c)) (first | assumption | exact hc)
                (first
                  | (go_at_call_of 39 (Value.pointer (some ⟨gx, 0, none⟩)); refine (push_any gx 53 _ c [] _ c0 c1 HTd.out.1).mono ?_; rintro e w4 ⟨rfl, hr4, hT4⟩; have hcx := KX.out _ _ (by assumption) hT4; have H4 := Lib.hid (HTd.out.pushX HG.out HNE.out hr4 hT4); clear hr4 hT4)
                  | (go_at_call_of 39 (Value.pointer (some ⟨gy, 0, none⟩)); refine (push_any gy 53 _ c [] _ c0 c1 H4.out.2.1).mono ?_; rintro e w5 ⟨rfl, hr5, hT5⟩; have hcy := KY.out _ _ (by assumption) hT5; have H5 := Lib.hid (H4.out.pushY HGy.out HNE.out hr5 hT5); clear hr5 hT5))
              have h6 := H5.out
              rw [HTX.out, HTY.out] at h6
              have H6 := Lib.hid h6
              clear h6 hcx hcy hc
              by_cases h16 : 16 ≤ k + 1
              · have hlk : (zs.take k ++ [c]).length = k + 1 := by rw [List.length_append, List.length_take, List.length_singleton]; omega
                have e1 := last16_behind xs (zs.take k ++ [c]) (by omega)
                have e2 := last16_behind ys (zs.take k ++ [c]) (by omega)
                rw [e1, e2]
                clear e1 e2 hlk
                have h16I : (16 : Int) ≤ (k : Int) + 1 := by omega
                go_wp2_with fail
                go_roundw
                case rel => exact ⟨k + 1, by omega, by go_num, H6⟩
                case measure => simp [intOf]; omega
              · have h16I : (k : Int) + 1 < 16 := by omega
                go_wp2_with fail
                go_roundw
                case rel => exact ⟨k + 1, by omega, by go_num, H6⟩
                case measure => simp [intOf]; omega
            · obtain ⟨us, hus⟩ : ∃ us, last16 zs = us := ⟨_, rfl⟩
              obtain ⟨A3, cap3, hcut, hcu, hru⟩ := cutD A'' cap'' zs us ((zs.length : Int) - 16) (by omega) (by omega) hcz (by
                rw [← hus]; unfold last16; rw [show ((zs.length : Int) - 16).toNat = zs.length - 16 from by omega])
              have hT := HTr.out
              rw [List.take_of_length_le (by omega)] at hT
              have hsumr : ∀ n, Calls Try.prog 22 #[.slice A3 us.length cap3] (wr.drewN n) fun e w' => e = .returned (.int .u32 (sumB us)) ∧ w' = wr.drewN n :=
                fun n => same' (sum_any _ _ _ _ _ (RdB.below (hru _ _ (HZ.out.below hT.2.2)) (below_drewN (Below.refl _ _) n)))
              have hfx : ∀ n, Calls Try.prog 41 #[.pointer (some ⟨gx, 0, none⟩)] (wr.drewN n) fun e w' => e = .returned (.bool true) ∧ w' = wr.drewN n := fun n => by
                have := same' (full_any gx 53 _ [] _ (hT.1.drewN n))
                rwa [show decide (16 ≤ (xs ++ zs).length) = true from by simp; omega] at this
              have hfy : ∀ n, Calls Try.prog 41 #[.pointer (some ⟨gy, 0, none⟩)] (wr.drewN n) fun e w' => e = .returned (.bool true) ∧ w' = wr.drewN n := fun n => by
                have := same' (full_any gy 53 _ [] _ (hT.2.1.drewN n))
                rwa [show decide (16 ≤ (ys ++ zs).length) = true from by simp; omega] at this
              have hsx : ∀ n, Calls Try.prog 40 #[.pointer (some ⟨gx, 0, none⟩)] (wr.drewN n) fun e w' => e = .returned (.int .u32 (sumB us)) ∧ w' = wr.drewN n := fun n => by
                have := same' (rsumm_any gx 53 _ [] _ (hT.1.drewN n))
                rwa [last16_behind xs zs hlo, hus] at this
              have hq1 : IntKind.i64.wrap ((zs.length : Int) - 16) = (zs.length : Int) - 16 := by rw [IntKind.wrap_i64]; omega
              have HS := Lib.hid hsumr
              have HFX := Lib.hid hfx
              have HFY := Lib.hid hfy
              have HSX := Lib.hid hsx
              have HTT := Lib.hid hT
              clear hsumr hfx hfy hsx hT hus hru hcu
              go_wp2_with fail
              go_quiet ((first | (go_at_call_of 41 (Value.pointer (some ⟨gx, 0, none⟩)); exact Calls.quiet_of_same (HFX.out _)) | (go_at_call_of 41 (Value.pointer (some ⟨gy, 0, none⟩)); exact Calls.quiet_of_same (HFY.out _)) | (go_at_call 40; exact Calls.quiet_of_same (HSX.out _)) | (go_at_call 22; exact Calls.quiet_of_same (HS.out _))))
              clear hq1 hcut
              go_wp2_with fail
              go_ret
              exact ⟨rfl, below_drewN HTT.out.2.2 _⟩
set_option maxHeartbeats 800000 in
theorem forgets_off (A A' A'' : Option Addr) (n m k cap cap' cap'' : Nat) (w : World) (h : 500 < n ∨ 500 < m ∨ 500 < k ∨ k < 16) :
    Calls Try.prog 11 #[.slice A n cap, .slice A' m cap', .slice A'' k cap''] w fun e w' => e = .returned (.bool true) ∧ Below w.heap.size w w' := by
  by_cases h1 : 500 < n
  · have b1 : decide ((500 : Int) < n) = true := by simp; omega
    go_enter Try.func11, Try.ntmps11
    go_wp2_with fail
    refine (awake5_any _).mono ?_
    rintro e w1 ⟨rfl, hB⟩
    have HB := Lib.hid hB
    clear hB
    go_wp2_with fail
    go_ret
    exact ⟨rfl, HB.out⟩
  · by_cases h2 : 500 < m
    · have b1 : decide ((500 : Int) < n) = false := by simp; omega
      have b2 : decide ((500 : Int) < m) = true := by simp; omega
      go_enter Try.func11, Try.ntmps11
      go_wp2_with fail
      refine (awake5_any _).mono ?_
      rintro e w1 ⟨rfl, hB⟩
      have HB := Lib.hid hB
      clear hB
      go_wp2_with fail
      go_ret
      exact ⟨rfl, HB.out⟩
    · by_cases h3 : 500 < k
      · have b1 : decide ((500 : Int) < n) = false := by simp; omega
        have b2 : decide ((500 : Int) < m) = false := by simp; omega
        have b3 : decide ((500 : Int) < k) = true := by simp; omega
        go_enter Try.func11, Try.ntmps11
        go_wp2_with fail
        refine (awake5_any _).mono ?_
        rintro e w1 ⟨rfl, hB⟩
        have HB := Lib.hid hB
        clear hB
        go_wp2_with fail
        go_ret
        exact ⟨rfl, HB.out⟩
      · have b1 : decide ((500 : Int) < n) = false := by simp; omega
        have b2 : decide ((500 : Int) < m) = false := by simp; omega
        have b3 : decide ((500 : Int) < k) = false := by simp; omega
        have h4 : k < 16 := by omega
        go_enter Try.func11, Try.ntmps11
        go_wp2_with fail
        refine (awake5_any _).mono ?_
        rintro e w1 ⟨rfl, hB⟩
        have HB := Lib.hid hB
        clear hB
        go_wp2_with fail
        go_ret
        exact ⟨rfl, HB.out⟩
theorem RollForgets_walk (a0 : Option Addr) (len0 cap0 : Nat) (z0 : List Int) (a1 : Option Addr) (len1 cap1 : Nat) (z1 : List Int) (a2 : Option Addr) (len2 cap2 : Nat) (z2 : List Int) (w : World)
    (w0 : IsRow .u8 w a0 len0 cap0 z0) (w1 : IsRow .u8 w a1 len1 cap1 z1) (w2 : IsRow .u8 w a2 len2 cap2 z2) :
    Calls Try.prog 11 #[.slice a0 len0 cap0, .slice a1 len1 cap1, .slice a2 len2 cap2] w fun e w' => e = .returned (.bool true) ∧ Below w.heap.size w w' := by
  by_cases h : 500 < len0 ∨ 500 < len1 ∨ 500 < len2 ∨ len2 < 16
  · exact forgets_off _ _ _ _ _ _ _ _ _ _ h
  · obtain ⟨xs, rfl, hc, hr⟩ := w0.rd (by omega)
    obtain ⟨ys, rfl, hc', hr'⟩ := w1.rd (by omega)
    obtain ⟨zs, rfl, hc'', hr''⟩ := w2.rd (by omega)
    exact forgets_walk _ _ _ _ _ _ _ _ _ _ hr hr' hr'' (by omega) (by omega) (by omega) (by omega) hc''

end Go.Proofs.Ytneieogpdjlnbaa
