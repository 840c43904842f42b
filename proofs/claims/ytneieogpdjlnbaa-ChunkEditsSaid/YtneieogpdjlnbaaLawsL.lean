/- The walk of layer 6's law ChunkAlone: it returns true and writes nothing that was there. Conditions: none beyond how the arguments lie in memory. -/
import Derived.Test.YtneieogpdjlnbaaLawsG
import Derived.Test.YtneieogpdjlnbaaPlainE
set_option linter.unusedVariables false
set_option linter.unusedSimpArgs false
namespace Go.Proofs.Ytneieogpdjlnbaa
open Go Go.RowKit Go.Proofs.YtneieogpdjlnbaaW.PrintWords

/-- l[j:], l whole numbers. -/
theorem cutI (A : Option Addr) (cap : Nat) (xs ys : List Int) (j : Nat) (hm : j ≤ xs.length) (hc : xs.length ≤ cap) (hy : xs.drop j = ys) :
    ∃ (A' : Option Addr) (cap' : Nat), (∀ W : World, (Instr.slice 42 (.slice A xs.length cap) (some (.int .i64 (j : Int))) none none).run Try.prog W = .ok (.slice A' ys.length cap') W) ∧ ∀ w, RdI w A xs → RdI w A' ys := by
  obtain ⟨i, hi, hzz⟩ := Option.map_eq_some_iff.1 info3b
  simp only [Prod.mk.injEq] at hzz
  subst hy
  refine ⟨if cap = j then A else A.map (·.add j), cap - j, fun W => ?_, fun w hr k hk => ?_⟩
  · rw [cut_from (P := Try.prog) 42 3 .i64 under42 hi 1 hzz.2.1 A xs.length cap (j : Int) (by omega) (by omega) W]
    simp only [Nat.mul_one, List.length_drop, Int.toNat_natCast]
  · rw [List.length_drop] at hk
    obtain ⟨ad, rfl, hcell⟩ := hr (j + k) (by omega)
    rw [if_neg (by omega)]
    refine ⟨ad.add j, rfl, ?_⟩
    rw [add_of_add, hcell]
    simp [List.getD_eq_getElem?_getD]
theorem OwnI.rdc {w : World} {B : Nat} {v : Value} {xs : List Int} (h : OwnI w B v xs) : ∃ A c, v = .slice A xs.length c ∧ xs.length ≤ c ∧ RdI w A xs := by
  obtain ⟨A, c, e, hr⟩ := h.rd
  refine ⟨A, c, e, ?_, hr⟩
  rcases h.2 with ⟨e', h0⟩ | ⟨g, cap, cur, e', _, _, h0, _⟩
  · omega
  · rw [e] at e'
    injection e' with _ _ e'
    omega
theorem flat_snoc_len (ls : List (List Int)) (k : Nat) (hk : k < ls.length) : (ls.take (k + 1)).flatten.length = (ls.take k).flatten.length + (ls.getD k []).length := by
  rw [← take_flat_snoc ls k hk, List.length_append]

set_option maxRecDepth 100000 in
set_option maxHeartbeats 3200000 in
theorem alone_walk (A : Option Addr) (cap : Nat) (bs : List Int) (a1 a2 : Int) (w : World) (hcap : bs.length ≤ cap) (hr : RdB w w.heap.size A bs) (hl : bs.length ≤ 8000) (hw1 : (Lit.int .i64 a1).wf = true) (hw2 : (Lit.int .i64 a2).wf = true) :
    Calls Try.prog 17 #[.slice A bs.length cap, .int .i64 a1, .int .i64 a2] w fun e w' => e = .returned (.bool true) ∧ Below w.heap.size w w' := by
  have hd : decide ((8000 : Int) < (bs.length : Int)) = false := by simp; omega
  have HR := Lib.hid hr
  have HW1 := Lib.hid hw1
  have HW2 := Lib.hid hw2
  clear hr hw1 hw2
  go_enter Try.func17, Try.ntmps17
  go_wp2_with fail
  refine (awake6_any w).mono ?_
  rintro e w1 ⟨rfl, hB1⟩
  have HB1 := Lib.hid hB1
  clear hB1
  go_wp2_with fail
  clear hd
  refine (cut_any (· < w1.heap.size) cap A bs w1 (HR.out.up HB1.out).rdS (by omega) hcap).mono ?_
  rintro e w2 ⟨v2, rfl, ho2, hB2⟩
  obtain ⟨A2, c2, rfl, hc2, hr2⟩ := ho2.rdc
  have hcnt := split_count bs
  rw [lensB_len] at hc2 ⊢
  obtain ⟨n, hn⟩ : ∃ n, (splitB bs).length = n := ⟨_, rfl⟩
  rw [hn] at hcnt hc2 ⊢
  have HN := Lib.hid hn
  have HR2 := Lib.hid hr2
  have HB2 := Lib.hid (HB1.out.trans (hB2.mono HB1.out.size))
  clear hn hr2 ho2 hB2 HB1
  have HPK := Lib.hid (pick_any a1 ((n : Int) + 1) w2 HW1.out (by omega) (by omega))
  go_wp2_with fail
  refine HPK.out.mono ?_
  rintro e w2' ⟨⟨k, rfl, hk0, _⟩, rfl⟩
  have hk : k ≤ n := by have := hk0 (by omega); omega
  clear hk0 HPK
  go_wp2_with fail
  go_loop [9, 10] (fun v9 v10 => ∃ j : Nat, j ≤ k ∧ v10 = .int .i64 j ∧ v9 = .int .i64 ((((splitB bs).take j).flatten.length : Nat) : Int)) (fun _ v10 => k - (intOf v10).toNat)
  case atStart => exact ⟨0, by omega, rfl, rfl⟩
  case round =>
    obtain ⟨j, hj, rfl, rfl⟩ := hrel
    by_cases hjk : j < k
    · obtain ⟨ad, e2, hcell⟩ := HR2.out j (by rw [lensB_len, HN.out]; omega)
      rw [lensB_getD bs j (by rw [HN.out]; omega)] at hcell
      subst e2
      have hsn := flat_snoc_len (splitB bs) j (by rw [HN.out]; omega)
      have hle1 := (split_drop bs (j + 1) (by rw [HN.out]; omega)).2
      obtain ⟨x, hx⟩ : ∃ x, ((splitB bs).take j).flatten.length = x := ⟨_, rfl⟩
      obtain ⟨y, hy⟩ : ∃ y, ((splitB bs).getD j []).length = y := ⟨_, rfl⟩
      rw [hx, hy] at hsn
      rw [hy] at hcell
      rw [hsn] at hle1
      rw [hx]
      have HSN := Lib.hid hsn
      have hjn : j < n := by omega
      clear hx hy hsn
      go_wp2_with fail
      go_round
      case rel => exact ⟨j + 1, by omega, by go_num, by rw [HSN.out]; go_num⟩
      case measure => simp [intOf]; omega
    · obtain rfl : j = k := by omega
      obtain ⟨hsd, hle⟩ := split_drop bs j (by rw [HN.out]; omega)
      have hld := lensB_drop bs j (by rw [HN.out]; omega)
      obtain ⟨x, hx⟩ : ∃ x, ((splitB bs).take j).flatten.length = x := ⟨_, rfl⟩
      rw [hx] at hld hle ⊢
      have HLD := Lib.hid hld
      clear hsd hx hld
      have hdx : decide ((bs.length : Int) < (x : Int)) = false := by simp; omega
      have hdx2 : decide (bs.length < x) = false := by simp; omega
      obtain ⟨ys, hys⟩ : ∃ ys, bs.drop x = ys := ⟨_, rfl⟩
      obtain ⟨A3, c3, hcut, hcl, hcr⟩ := cutD A cap bs ys (x : Int) (by omega) (by omega) hcap (by rw [← hys]; congr 1)
      obtain ⟨ns, hns⟩ : ∃ ns, (lensB bs).drop j = ns := ⟨_, rfl⟩
      obtain ⟨A4, c4, hcutI, hcrI⟩ := cutI A2 c2 (lensB bs) ns j (by rw [lensB_len, HN.out]; omega) (by rw [lensB_len, HN.out]; omega) hns
      rw [lensB_len, HN.out] at hcutI
      have hyl : ys.length ≤ 8000 := by rw [← hys, List.length_drop]; omega
      have HL := Lib.hid (show lensB ys = ns by rw [← hys, HLD.out, hns])
      have hrd2 := hcr _ _ (HR.out.up HB2.out)
      have hri2 := hcrI _ HR2.out
      have HRD := Lib.hid hrd2
      have HRI := Lib.hid hri2
      have hnl : ns.length ≤ 8000 := by rw [← hns, List.length_drop, lensB_len, HN.out]; omega
      have HS0 : Hid (Below w2.heap.size w2 w2.drew) := (Below.refl _ _).drew
      clear hys hns hcr hcrI hrd2 hri2 HLD
      go_wp2_with fail
      go_region_held3 (fun W => Below w2.heap.size w2 W) (first | assumption | exact HS0.out)
        (first
          | (go_at_call 33; refine (cut_any (fun _ => True) c3 A3 ys _ ((HRD.out.up (by assumption)).rdS.mono (fun _ _ _ => trivial)) (by omega) hcl).mono ?_; rintro e w5 ⟨v5, rfl, ho5, hB5⟩; rw [HL.out] at ho5; obtain ⟨A5, c5, rfl, _, hr5⟩ := ho5.rdc; have hB5' : Below w2.heap.size w2 w5 := Below.trans (by assumption) (hB5.mono (Below.size (by assumption))); have HR5 := Lib.hid hr5; clear ho5 hB5 hr5)
          | (go_at_call 46; refine (sameInts_any c5 c4 A5 A4 ns ns _ HR5.out (HRI.out.below (by assumption)) (by omega) (by omega)).mono ?_; rintro e w6 ⟨rfl, hB6⟩; rw [decide_eq_true rfl]; have hB6' : Below w2.heap.size w2 w6 := Below.trans (by assumption) (hB6.mono (Below.size (by assumption))); clear hB6))
      have HB6 := Lib.hid (HB2.out.trans (hB6'.mono HB2.out.size))
      have HR26 := Lib.hid (HR2.out.below hB6')
      clear hB6' hB5' HR5 HRI HRD HL hcutI hcut hdx hdx2 HS0
      have HPK2 := Lib.hid (pick_any a2 ((bs.length : Int) + 1) w6 HW2.out (by omega) (by omega))
      go_wp2_with fail
      refine HPK2.out.mono ?_
      rintro e w6' ⟨⟨u, rfl, hu0, _⟩, rfl⟩
      have hu : u ≤ bs.length := by have := hu0 (by omega); omega
      clear hu0 HPK2
      obtain ⟨qs, hqs⟩ : ∃ qs, bs.take u = qs := ⟨_, rfl⟩
      obtain ⟨hcutT, hclT, hcrT⟩ := cutT A cap bs qs (u : Int) (by omega) (by omega) hcap (by rw [← hqs]; congr 1)
      have hrdT := hcrT _ _ (HR.out.up HB6.out)
      have hql : qs.length ≤ 8000 := by rw [← hqs, List.length_take]; omega
      have HTK := Lib.hid (fun i hi => split_take bs u i hi)
      rw [hqs] at HTK
      have HCU := Lib.hid (cut_any (· < w6.heap.size) cap A qs w6 hrdT.rdS (by omega) hclT)
      clear hqs hcrT hrdT hclT
      go_wp2_with fail
      refine HCU.out.mono ?_
      rintro e w7 ⟨v7, rfl, ho7, hB7⟩
      obtain ⟨A7, c7, rfl, _, hr7⟩ := ho7.rdc
      have hcnt7 := split_count qs
      rw [lensB_len]
      obtain ⟨m, hm⟩ : ∃ m, (splitB qs).length = m := ⟨_, rfl⟩
      rw [hm] at hcnt7 ⊢
      have HM := Lib.hid hm
      have HR7 := Lib.hid hr7
      have HR27 := Lib.hid (HR26.out.below hB7)
      have HB7 := Lib.hid (HB6.out.trans (hB7.mono HB6.out.size))
      clear hm hr7 ho7 hB7 HCU HR26 HB6 hcutT
      go_wp2_with fail
      go_loopw [12] (fun v12 wr => ∃ i : Nat, i ≤ m ∧ v12 = .int .i64 i ∧ Hid (Below w7.heap.size w7 wr)) (fun v12 _ => m - (intOf v12).toNat)
      case atStart => exact ⟨0, by omega, rfl, Below.refl _ _⟩
      case round =>
        obtain ⟨i, hi, rfl, HB⟩ := hrel
        by_cases him : i + 1 < m
        · have hdi : decide ((i : Int) < (m : Int) - 1) = true := by simp; omega
          obtain ⟨hin, heq⟩ := HTK.out i (by rw [HM.out]; exact him)
          rw [HN.out] at hin
          have hdn : decide ((n : Int) ≤ (i : Int)) = false := by simp; omega
          have hdn2 : decide (n ≤ i) = false := by simp; omega
          obtain ⟨ad7, e7, hc7⟩ := (HR7.out.below HB.out) i (by rw [lensB_len, HM.out]; omega)
          obtain ⟨ad2, e2, hc2'⟩ := (HR27.out.below HB.out) i (by rw [lensB_len, HN.out]; omega)
          rw [lensB_getD qs i (by rw [HM.out]; omega), heq] at hc7
          rw [lensB_getD bs i (by rw [HN.out]; omega)] at hc2'
          subst e7 e2
          obtain ⟨x, hx⟩ : ∃ x, (((splitB bs).getD i []).length : Int) = x := ⟨_, rfl⟩
          rw [hx] at hc7 hc2'
          clear hx heq
          go_wp2_with fail
          go_quiet (fail)
          go_wp2_with fail
          go_roundw
          case rel => exact ⟨i + 1, by omega, by go_num, by first | exact pw_below_drewN HB.out _ | exact below_drew HB.out | exact HB.out⟩
          case measure => simp [intOf]; omega
        · have hdi : decide ((i : Int) < (m : Int) - 1) = false := by simp; omega
          go_wp2_with fail
          go_ret
          exact ⟨rfl, HB7.out.trans (HB.out.mono HB7.out.size)⟩

set_option maxHeartbeats 800000 in
theorem ChunkAlone_walk (a0 : Option Addr) (len0 cap0 : Nat) (z0 : List Int) (a1 a2 : Int) (w : World) (w0 : IsRow .u8 w a0 len0 cap0 z0) (w1 : (Lit.int .i64 a1).wf = true) (w2 : (Lit.int .i64 a2).wf = true) :
    Calls Try.prog 17 #[.slice a0 len0 cap0, .int .i64 a1, .int .i64 a2] w fun e w' => e = .returned (.bool true) ∧ Below w.heap.size w w' := by
  by_cases hn : len0 ≤ 8000
  · obtain ⟨xs, rfl, hc, hr⟩ := w0.rd (by omega)
    exact alone_walk _ _ _ _ _ _ hc hr (by omega) w1 w2
  · have hd : decide ((8000 : Int) < (len0 : Int)) = true := by simp; omega
    have hl := w0.len
    clear w0
    go_enter Try.func17, Try.ntmps17
    go_wp2_with fail
    refine (awake6_any w).mono ?_
    rintro e w1 ⟨rfl, hB1⟩
    go_wp2_with fail
    go_ret
    exact ⟨rfl, hB1⟩
end Go.Proofs.Ytneieogpdjlnbaa
