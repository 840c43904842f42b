/- The walk of layer 5's law RollApart. Conditions: none beyond how the arguments lie in memory. -/
import Derived.Test.YtneieogpdjlnbaaLawsD
set_option linter.unusedVariables false
set_option linter.unusedSimpArgs false
namespace Go.Proofs.Ytneieogpdjlnbaa
open Go.RowKit Go.Proofs.YtneieogpdjlnbaaW.PrintWords

/-- A cell of a row of bytes of one's own, and what a store into it leaves. -/
theorem OwnB.at_ {w : World} {S : Nat → Prop} {v : Value} {xs : List Int} (h : OwnB w S v xs) (k : Nat) (hk : k < xs.length) (c : Int) (hc : 0 ≤ c ∧ c ≤ 255) :
    ∃ (g cap : Nat), v = .slice (some ⟨g, 0, none⟩) xs.length cap ∧ S g ∧ w.cell? ⟨g, k, none⟩ = some (.int .u8 (xs.getD k 0)) ∧ w.frozen? ⟨g, k, none⟩ = false ∧ OwnB (w.setCell ⟨g, k, none⟩ (.int .u8 c)) S v (xs.set k c) := by
  obtain ⟨hb, h⟩ := h
  rcases h with ⟨e, rfl⟩ | ⟨g, sp, e, hg, h1, h2, h3⟩
  · simp at hk
  · have hset := h3.set_ k (.int .u8 c)
    have ee : (nums .u8 (xs ++ sp)).toArray.setIfInBounds k (.int .u8 c) = (nums .u8 (xs.set k c ++ sp)).toArray := by
      simp [nums, List.map_set, List.set_append, hk]
    rw [ee] at hset
    refine ⟨g, _, e, hg, by rw [h3.cell k, nums_row xs sp k hk], h3.frozen k, fun z hz => ?_, .inr ⟨g, sp, by rw [List.length_set]; exact e, hg, h1, by rw [List.length_set]; exact h2, hset⟩⟩
    rcases List.mem_or_eq_of_mem_set hz with h | h
    · exact hb z h
    · rw [h]; exact hc

set_option maxHeartbeats 1600000 in
theorem apart_walk (A : Option Addr) (cap : Nat) (xs : List Int) (at_ c : Int) (w : World) (hr : RdB w w.heap.size A xs) (hlo : 0 < xs.length) (hlen : xs.length ≤ 1000)
    (ha : (Lit.int .i64 at_).wf = true) (hc0 : 0 ≤ c) (hc1 : c ≤ 255) :
    Calls Try.prog 5 #[.slice A xs.length cap, .int .i64 at_, .int .u8 c] w fun e w' => e = .returned (.bool true) ∧ Below w.heap.size w w' := by
  have HR := Lib.hid hr
  clear hr
  have hne : ((xs.length : Int) == 0) = false := beq_eq_false_iff_ne.2 (by omega)
  go_enter Try.func5, Try.ntmps5
  go_wp2_with fail
  refine (awake5_any _).mono ?_
  rintro e w1 ⟨rfl, hB⟩
  have HB := Lib.hid hB
  have HR1 := Lib.hid (HR.out.below hB)
  clear hB
  go_wp2_with fail
  refine (pick_any _ _ _ ha (by omega) (by omega)).mono ?_
  rintro e w2 ⟨⟨k, rfl, hk, _⟩, rfl⟩
  have hk' : k < xs.length := by have := hk (by omega); omega
  clear hk
  go_wp2_with fail
  refine (copy_any _ _ _ xs _ HR1.out).mono ?_
  rintro e w2 ⟨⟨v, rfl, hown⟩, hB2⟩
  obtain ⟨g, capv, rfl, hg, hcell, hfz, hown2⟩ := hown.at_ k hk' c ⟨hc0, hc1⟩
  have hg0 : w1.heap.size ≤ g := hg
  have HB2 := Lib.hid (HB.out.trans (hB2.mono HB.out.size))
  have hb3 := HB2.out.setCell (p := ⟨g, k, none⟩) (Nat.le_trans HB.out.size hg0) (.int .u8 c)
  have HB3 := Lib.hid hb3
  have HO := Lib.hid hown2
  have hcz : w2.cell? ⟨g, k, none⟩ = some (.int .u8 (xs.getD k 0)) := hcell
  clear hown hown2 hB2 hb3 hcell hg hg0
  obtain ⟨ad, rfl, hadlt, hcell⟩ := (HR.out.below HB3.out).2.2 hlo
  have hx := hcell k hk'
  obtain ⟨x, hxe⟩ : ∃ x, xs.getD k 0 = x := ⟨_, rfl⟩
  obtain ⟨x0, x1⟩ := HR.out.1.at_ k
  rw [hxe] at hx x0 x1 hcz
  have HXE := Lib.hid hxe
  clear hcell hxe
  have hkI : (k : Int) < (xs.length : Int) := by omega
  go_upto_region 7 with (fail)
  generalize w2.setCell ⟨g, k, none⟩ (.int .u8 c) = w3 at HB3 HO hx ⊢
  clear hcz hfz HB2
  obtain ⟨A4, c4, hv4, _, hr4⟩ := HO.out.rd (by rw [List.length_set]; omega)
  rw [List.length_set] at hv4
  injection hv4 with e1 e2 e3
  subst e1
  subst e3
  clear e2
  have hr4b := hr4.rdB
  obtain ⟨ys, hys⟩ : ∃ ys, xs.set k c = ys := ⟨_, rfl⟩
  have hyl : ys.length = xs.length := by rw [← hys, List.length_set]
  rw [hys] at hr4b
  have hsx : ∀ n, Calls Try.prog 22 #[.slice (some ad) xs.length cap] (w3.drewN n) fun e w' => e = .returned (.int .u32 (sumB xs)) ∧ w' = w3.drewN n :=
    fun n => same' (sum_any _ _ _ _ _ (RdB.below (HR.out.below HB3.out) (below_drewN (Below.refl _ _) n)))
  have hsy : ∀ n, Calls Try.prog 22 #[.slice (some ⟨g, 0, none⟩) xs.length capv] (w3.drewN n) fun e w' => e = .returned (.int .u32 (sumB ys)) ∧ w' = w3.drewN n := fun n => by
    have := same' (sum_any _ capv _ _ _ (RdB.below hr4b (below_drewN (Below.refl _ _) n)))
    rwa [hyl] at this
  have hwc : ∀ W, Calls Try.prog 20 #[.int .u8 c] W fun e w' => e = .returned (.int .u32 (wt c)) ∧ w' = W := fun W => same' (weight_any c W hc0 hc1)
  have hwx : ∀ W, Calls Try.prog 20 #[.int .u8 x] W fun e w' => e = .returned (.int .u32 (wt x)) ∧ w' = W := fun W => same' (weight_any x W x0 x1)
  have hodd := wt_odd c
  have hap := sum_apart xs k c hk' HR.out.1 ⟨hc0, hc1⟩
  rw [hys, HXE.out] at hap
  have hss : x = c → ys = xs := fun e => by rw [← hys, ← e, ← HXE.out]; exact set_self xs k hk'
  obtain ⟨s1, h1⟩ : ∃ s, sumB xs = s := ⟨_, rfl⟩
  obtain ⟨s2, h2⟩ : ∃ s, sumB ys = s := ⟨_, rfl⟩
  obtain ⟨v1, h3⟩ : ∃ s, wt c = s := ⟨_, rfl⟩
  obtain ⟨v2, h4⟩ : ∃ s, wt x = s := ⟨_, rfl⟩
  have hwi : v1 = v2 → x = c := fun e => (wt_inj c x ⟨hc0, hc1⟩ ⟨x0, x1⟩ (by rw [h3, h4, e])).symm
  rw [h1] at hsx hap
  rw [h2] at hsy hap
  rw [h3] at hwc hodd
  rw [h4] at hwx
  have HSX := Lib.hid hsx
  have HSY := Lib.hid hsy
  have HWC := Lib.hid hwc
  have HWX := Lib.hid hwx
  have hv0 : 0 ≤ v1 := by rw [← h3]; exact (wt_range c).1
  have hm : v1.tmod 2 = 1 := by rw [Int.tmod_eq_emod_of_nonneg hv0]; exact hodd
  have HM := Lib.hid hm
  by_cases hxc : x = c
  · have e12 : s2 = s1 := by rw [← h1, ← h2, hss hxc]
    have e34 : v2 = v1 := by rw [← h3, ← h4, hxc]
    subst hxc
    clear hsx hsy hwc hwx hap hss hwi h1 h2 h3 h4 hys hyl hr4 hr4b hodd hm
    have HS12 := Lib.hid e12
    have HS34 := Lib.hid e34
    rw [HS34.out] at HWX
    rw [HS12.out] at HSY
    clear e12 e34
    go_wp2_with fail
    have hm := HM.out
    go_quiet ((first | (go_at_call_of 22 (Value.slice (some ad) xs.length cap); exact Calls.quiet_of_same (HSX.out _)) | (go_at_call_of 22 (Value.slice (some ⟨g, 0, none⟩) xs.length capv); exact Calls.quiet_of_same (HSY.out _)) | (go_at_call 20; exact Calls.quiet_of_same (HWC.out _))))
    clear hm
    go_wp2_with fail
    go_ret
    exact ⟨rfl, below_drewN HB3.out _⟩
  · have b1 : (x == c) = false := beq_eq_false_iff_ne.2 hxc
    have b2 : (s2 == s1) = false := beq_eq_false_iff_ne.2 (fun e => hxc (hap e))
    have b3 : (v1 == v2) = false := beq_eq_false_iff_ne.2 (fun e => hxc (hwi e))
    clear hsx hsy hwc hwx hap hss hwi h1 h2 h3 h4 hys hyl hr4 hr4b hodd hm hxc
    go_wp2_with fail
    have hm := HM.out
    go_quiet ((first | (go_at_call_of 22 (Value.slice (some ad) xs.length cap); exact Calls.quiet_of_same (HSX.out _)) | (go_at_call_of 22 (Value.slice (some ⟨g, 0, none⟩) xs.length capv); exact Calls.quiet_of_same (HSY.out _)) | (go_at_call_of 20 (Value.int .u8 c); exact Calls.quiet_of_same (HWC.out _)) | (go_at_call_of 20 (Value.int .u8 x); exact Calls.quiet_of_same (HWX.out _))))
    clear hm
    go_wp2_with fail
    go_ret
    exact ⟨rfl, below_drewN HB3.out _⟩

set_option maxHeartbeats 400000 in
theorem apart_off (A : Option Addr) (len cap : Nat) (at_ c : Int) (w : World) (h : len = 0 ∨ 1000 < len) :
    Calls Try.prog 5 #[.slice A len cap, .int .i64 at_, .int .u8 c] w fun e w' => e = .returned (.bool true) ∧ Below w.heap.size w w' := by
  by_cases h0 : len = 0
  · subst h0
    go_enter Try.func5, Try.ntmps5
    go_wp2_with fail
    refine (awake5_any _).mono ?_
    rintro e w1 ⟨rfl, hB⟩
    have HB := Lib.hid hB
    clear hB
    go_wp2_with fail
    go_ret
    exact ⟨rfl, HB.out⟩
  · have hne : ((len : Int) == 0) = false := beq_eq_false_iff_ne.2 (by omega)
    have h1 : 1000 < len := by omega
    go_enter Try.func5, Try.ntmps5
    go_wp2_with fail
    refine (awake5_any _).mono ?_
    rintro e w1 ⟨rfl, hB⟩
    have HB := Lib.hid hB
    clear hB
    go_wp2_with fail
    go_ret
    exact ⟨rfl, HB.out⟩
theorem RollApart_walk (a0 : Option Addr) (len0 cap0 : Nat) (z0 : List Int) (a1 a2 : Int) (w : World) (w0 : IsRow .u8 w a0 len0 cap0 z0) (w1 : (Lit.int .i64 a1).wf = true) (w2 : (Lit.int .u8 a2).wf = true) :
    Calls Try.prog 5 #[.slice a0 len0 cap0, .int .i64 a1, .int .u8 a2] w fun e w' => e = .returned (.bool true) ∧ Below w.heap.size w w' := by
  by_cases h : len0 = 0 ∨ 1000 < len0
  · exact apart_off _ _ _ _ _ _ h
  · obtain ⟨xs, rfl, hc, hr⟩ := w0.rd (by omega)
    exact apart_walk _ _ _ _ _ _ hr (by omega) (by omega) w1 (wf_u8 w2).1 (wf_u8 w2).2
end Go.Proofs.Ytneieogpdjlnbaa
