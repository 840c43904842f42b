/- The walks of the reference's ends, Next, Split, Cut. Conditions: those that each statement names. -/
import Derived.Test.YtneieogpdjlnbaaCutA
import Derived.Test.YtneieogpdjlnbaaPlainD
set_option linter.unusedVariables false
set_option linter.unusedSimpArgs false
namespace Go.Proofs.Ytneieogpdjlnbaa
open Go Go.RowKit Go.Proofs.YtneieogpdjlnbaaW.PrintWords

/-- What the reference's Next tells. -/
def NextB (xs : List Int) (m : Nat) (is : Bool) : Prop := m ≤ xs.length ∧ (∀ k, k < m → endsB (xs.take k) = false) ∧ (is = true → endsB (xs.take m) = true) ∧ (is = false → m = xs.length ∧ endsB xs = false)
def NextR (e : Ending) (xs : List Int) : Prop := ∃ (m : Nat) (is : Bool), e = .returned (.tuple #[.int .i64 m, .bool is]) ∧ NextB xs m is
theorem cutRun_noend (bs : List Int) : ∀ h, (∀ k, 0 < k → k ≤ bs.length → endsB (h ++ bs.take k) = false) → cutRun h bs = ([], h ++ bs) := by
  induction bs with
  | nil => intro h _; simp [cutRun]
  | cons c bs ih =>
    intro h hn
    have h1 : endsB (h ++ [c]) = false := by simpa using hn 1 (by omega) (by simp)
    rw [cutRun, h1, if_neg (by simp), ih (h ++ [c]) (fun k hk hle => by
      have := hn (k + 1) (by omega) (by simp; omega)
      simpa using this)]
    simp
theorem NextB.cut {xs : List Int} {m : Nat} (h : NextB xs m true) : 0 < m ∧ cutRun [] xs = (xs.take m :: (cutRun [] (xs.drop m)).1, (cutRun [] (xs.drop m)).2) := by
  obtain ⟨h1, h2, h3, _⟩ := h
  have he := h3 rfl
  have hm : 64 ≤ m := by have := ends_pos he; rw [List.length_take] at this; omega
  refine ⟨by omega, ?_⟩
  have e1 : xs.take m = xs.take (m - 1) ++ [xs.getD (m - 1) 0] := by rw [take_snoc xs (m - 1) (by omega), show m - 1 + 1 = m from by omega]
  have e2 : cutRun [] (xs.take (m - 1)) = ([], xs.take (m - 1)) := by
    have := cutRun_noend (xs.take (m - 1)) [] (fun k hk hle => by
      rw [List.length_take] at hle
      rw [List.nil_append, List.take_take, Nat.min_eq_left (by omega)]
      exact h2 k (by omega))
    simpa using this
  have e3 : cutRun [] (xs.take m) = ([xs.take m], []) := by
    rw [e1] at he
    rw [e1, cutRun_snoc, e2]
    generalize xs.getD (m - 1) 0 = c at he ⊢
    simp [he]
  conv => lhs; rw [← List.take_append_drop m xs]
  rw [cutRun_append, e3]
  rfl
theorem NextB.none {xs : List Int} {m : Nat} (h : NextB xs m false) : m = xs.length ∧ cutRun [] xs = ([], xs) := by
  obtain ⟨h1, h2, _, h4⟩ := h
  obtain ⟨rfl, he⟩ := h4 rfl
  refine ⟨rfl, ?_⟩
  have := cutRun_noend xs [] (fun k hk hle => by
    rw [List.nil_append]
    rcases Nat.lt_or_ge k xs.length with h | h
    · exact h2 k h
    · rw [List.take_of_length_le h]; exact he)
  simpa using this
theorem NextB.split {xs : List Int} {m : Nat} {is : Bool} (h : NextB xs m is) (hp : 0 < xs.length) : 0 < m ∧ splitB xs = xs.take m :: splitB (xs.drop m) := by
  cases is with
  | true =>
    obtain ⟨hm, hc⟩ := h.cut
    refine ⟨hm, ?_⟩
    unfold splitB
    rw [hc]
    simp
  | false =>
    obtain ⟨hm, hc⟩ := h.none
    refine ⟨by omega, ?_⟩
    have hne : xs ≠ [] := fun e => by rw [e] at hp; simp at hp
    subst hm
    rw [List.take_length, List.drop_length]
    unfold splitB
    rw [hc]
    simp [hne, cutRun]

set_option maxHeartbeats 800000 in
theorem rends_any (B cap : Nat) (A : Option Addr) (xs : List Int) (w : World) (hr : RdB w B A xs) (hcap : xs.length ≤ cap) (hl : xs.length ≤ 1000000) :
    Calls Try.prog 59 #[.slice A xs.length cap] w fun e w' => e = .returned (.bool (endsB xs)) ∧ w = w' := by
  have HR := Lib.hid hr
  clear hr
  by_cases a1 : xs.length = 1024
  · have b1 : ((xs.length : Int) == 1024) = true := beq_iff_eq.2 (by omega)
    have hv : endsB xs = true := by unfold endsB; rw [decide_eq_true a1]; rfl
    rw [hv]
    clear a1 hv
    go_enter Try.func59, Try.ntmps59
    go_wp2_with fail
    go_ret
    exact ⟨rfl, rfl⟩
  · have b1 : ((xs.length : Int) == 1024) = false := beq_eq_false_iff_ne.2 (by omega)
    by_cases a2 : 64 ≤ xs.length
    · have b2 : decide ((64 : Int) ≤ (xs.length : Int)) = true := by simp; omega
      obtain ⟨ys, hys⟩ : ∃ ys, xs.drop (xs.length - 16) = ys := ⟨_, rfl⟩
      obtain ⟨A', c', hcut, _, hcr⟩ := cutD A cap xs ys ((xs.length : Int) - 16) (by omega) (by omega) hcap (by rw [← hys]; congr 1; omega)
      have hrd := hcr _ _ HR.out
      have hv : endsB xs = (sumB ys / 16777216 == 0) := by
        unfold endsB
        rw [decide_eq_false a1, decide_eq_true a2, ← hys]
        rfl
      have hsr := sumB_range ys
      obtain ⟨s, hs⟩ : ∃ s, sumB ys = s := ⟨_, rfl⟩
      have hsum := rsum_any _ c' A' ys w hrd
      rw [hs] at hsum hsr hv
      obtain ⟨hs0, hs1⟩ := hsr
      rw [hv]
      have HSUM := Lib.hid hsum
      clear hcr hrd hys hv hsum hs a1
      obtain ⟨q, hq⟩ : ∃ q, s / 16777216 = q := ⟨_, rfl⟩
      go_enter Try.func59, Try.ntmps59
      go_wp2_with fail
      refine HSUM.out.mono ?_
      rintro e w' ⟨rfl, rfl⟩
      go_wp2_with fail
      go_ret
      exact ⟨by first | rfl | (rw [hq]; rfl), rfl⟩
    · have b2 : decide ((64 : Int) ≤ (xs.length : Int)) = false := by simp; omega
      have hv : endsB xs = false := by unfold endsB; rw [decide_eq_false a1, decide_eq_false a2]; rfl
      rw [hv]
      clear a1 a2 hv
      go_enter Try.func59, Try.ntmps59
      go_wp2_with fail
      go_ret
      exact ⟨rfl, rfl⟩

set_option maxHeartbeats 800000 in
theorem next_any (B cap : Nat) (A : Option Addr) (xs : List Int) (w : World) (hr : RdB w B A xs) (hcap : xs.length ≤ cap) (hl : xs.length ≤ 1000000) :
    Calls Try.prog 56 #[.slice A xs.length cap] w fun e w' => NextR e xs ∧ w = w' := by
  have HR := Lib.hid hr
  clear hr
  go_enter Try.func56, Try.ntmps56
  go_wp2_with fail
  go_loop [4] (fun i => ∃ k : Nat, 1 ≤ k ∧ k ≤ xs.length + 1 ∧ i = .int .i64 k ∧ Hid (∀ j, j < k → endsB (xs.take j) = false)) (fun i => xs.length + 1 - (intOf i).toNat)
  case atStart => exact ⟨1, by omega, by omega, rfl, fun j hj => by
    obtain rfl : j = 0 := by omega
    rfl⟩
  case round =>
    obtain ⟨k, hk1, hk, rfl, HP⟩ := hrel
    by_cases hlt : k ≤ xs.length
    · obtain ⟨ys, hys⟩ : ∃ ys, xs.take k = ys := ⟨_, rfl⟩
      obtain ⟨hcut, hcl, hcr⟩ := cutT A cap xs ys (k : Int) (by omega) (by omega) hcap (by rw [← hys]; congr 1)
      have hrd := hcr _ _ HR.out
      have hyl : ys.length ≤ 1000000 := by rw [← hys, List.length_take]; omega
      have HE := Lib.hid (rends_any _ cap A ys w hrd hcl hyl)
      have HYS := Lib.hid hys
      clear hcr hrd hys
      obtain ⟨b, hb⟩ : ∃ b, endsB ys = b := ⟨_, rfl⟩
      rw [hb] at HE
      have HBB := Lib.hid hb
      clear hb
      go_wp2_with fail
      refine HE.out.mono ?_
      rintro e w' ⟨rfl, rfl⟩
      cases b with
      | true =>
        go_wp2_with fail
        refine bodyPost_ret (results_list (rs := [.tmp 2, .tmp 3]) rfl (by simp) (.tmp (.tmp .nil))) rfl ?_
        exact ⟨⟨k, true, rfl, hlt, HP.out, fun _ => by rw [HYS.out]; exact HBB.out, fun h => by cases h⟩, rfl⟩
      | false =>
        go_wp2_with fail
        go_round
        case rel => exact ⟨k + 1, by omega, by omega, by go_num, fun j hj => by
          by_cases e : j = k
          · rw [e, HYS.out]; exact HBB.out
          · exact HP.out j (by omega)⟩
        case measure => simp [intOf]; omega
    · go_wp2_with fail
      refine bodyPost_ret (results_list (rs := [.tmp 2, .tmp 3]) rfl (by simp) (.tmp (.tmp .nil))) rfl ?_
      have hN : NextB xs xs.length false := ⟨Nat.le_refl _, fun j hj => HP.out j (by omega), fun h => (by cases h), fun _ => ⟨rfl, by have := HP.out xs.length (by omega); rwa [List.take_length] at this⟩⟩
      exact ⟨⟨xs.length, false, rfl, hN⟩, rfl⟩

set_option maxHeartbeats 1600000 in
theorem rsplit_any (B cap : Nat) (A : Option Addr) (bs : List Int) (w : World) (hr : RdB w w.heap.size A bs) (hcap : bs.length ≤ cap) (hl : bs.length ≤ 900000) :
    Calls Try.prog 44 #[.slice A bs.length cap] w fun e w' => ∃ v, e = .returned v ∧ OwnL w' (w.heap.size ≤ ·) v (splitB bs) ∧ Below w.heap.size w w' := by
  have HR := Lib.hid hr
  clear hr
  go_enter Try.func44, Try.ntmps44
  go_wp2_with fail
  go_loopw [0, 3] (fun v0 v3 wr => ∃ (rs : List Int) (A' : Option Addr) (c' : Nat) (o : Value) (ps : List (List Int)), .slice A' rs.length c' = v0 ∧ o = v3 ∧ rs.length ≤ c' ∧ ps.length + rs.length ≤ bs.length ∧ Hid (RdB wr w.heap.size A' rs) ∧ Hid (splitB bs = ps ++ splitB rs) ∧ Hid (OwnL wr (w.heap.size ≤ ·) o ps) ∧ Hid (Below w.heap.size w wr))
    (fun v0 _ _ => match v0 with | .slice _ n _ => n | _ => 0)
  case atStart => exact ⟨bs, A, cap, _, [], rfl, rfl, hcap, by simp, HR, rfl, OwnL.nil _ _, Below.refl _ _⟩
  case round =>
    obtain ⟨rs, A', c', o, ps, h0, h3, hc', hps, HRR, HSP, HO, HB⟩ := hrel
    subst h0
    subst h3
    by_cases hlt : 0 < rs.length
    · have hd : decide ((0 : Int) < (rs.length : Int)) = true := by simp; omega
      have HN := Lib.hid (next_any _ c' A' rs wr HRR.out hc' (by omega))
      go_wp2_with fail
      refine HN.out.mono ?_
      rintro e wr' ⟨⟨m, is, rfl, hnb⟩, rfl⟩
      obtain ⟨hm, hsp⟩ := hnb.split hlt
      have hml := hnb.1
      obtain ⟨ys, hys⟩ : ∃ ys, rs.take m = ys := ⟨_, rfl⟩
      obtain ⟨qs, hqs⟩ : ∃ qs, rs.drop m = qs := ⟨_, rfl⟩
      obtain ⟨hcutT, hclT, hcrT⟩ := cutT A' c' rs ys (m : Int) (by omega) (by omega) hc' (by rw [← hys]; congr 1)
      obtain ⟨A3, c3, hcutD, hclD, hcrD⟩ := cutD A' c' rs qs (m : Int) (by omega) (by omega) hc' (by rw [← hqs]; congr 1)
      have hyl : ys.length = m := by rw [← hys, List.length_take]; omega
      have hql : qs.length + m = rs.length := by rw [← hqs, List.length_drop]; omega
      rw [hys, hqs] at hsp
      have HST := Lib.hid hsp
      have HRT := Lib.hid (hcrT _ _ HRR.out)
      have HRD := Lib.hid (hcrD _ _ HRR.out)
      clear hcrT hcrD hsp hys hqs hnb HN
      have hbw := HB.out.size
      have ho0 : OwnB (wr.alloc (.cells #[] 5)) (w.heap.size ≤ ·) (.slice (some ⟨wr.heap.size, 0, none⟩) 0 0) [] := ⟨fun x hx => by simp at hx, .inr ⟨wr.heap.size, [], rfl, hbw, fun x hx => by simp at hx, by simp, Blk.new wr 5 #[]⟩⟩
      have HO0 := Lib.hid ho0
      have HRT1 := Lib.hid (HRT.out.below (B := w.heap.size) (w' := wr.alloc (.cells #[] 5)) ((Below.refl w.heap.size wr).alloc hbw _))
      have HOL1 := Lib.hid (HO.out.turn none (World.grownBy_alloc wr (.cells #[] 5) none) (fun k e => by cases e) (fun k e => by cases e))
      have HB1 := Lib.hid (HB.out.alloc hbw (.cells #[] 5))
      clear ho0
      have hsy : ys.length ≤ 1000000 := by omega
      have HYL := Lib.hid hyl
      have HQL := Lib.hid hql
      clear hyl hql
      go_wp2_with (first
        | (at_builtin; refine wpList_append_bytes (wr.alloc (.cells #[] 5)) rfl _ _ rfl (w.heap.size ≤ ·) (.slice (some ⟨wr.heap.size, 0, none⟩) 0 0) [] ys rfl HO0.out w.heap.size A' c' rfl HRT1.out (by simp; omega) (by simp; omega) ?_; intro v2 w2 ho2 hg2 hat2; rw [List.nil_append] at ho2; obtain ⟨A5, c5, e5⟩ := ho2.shape; subst e5; have hbb : Below wr.heap.size wr w2 := ((Below.refl _ _).alloc (Nat.le_refl _) (.cells #[] 5)).grown hg2 (by simp) (fun j e => by simp [Value.ownBlock] at e; omega); have HO2 := Lib.hid ho2; have HB2 := Lib.hid (HB.out.trans (hbb.mono hbw)); have HOL2 := Lib.hid (HO.out.keep (fun j hj hlt => hbb.block j hlt)); have HBW2 := Lib.hid (hbb.mono hbw); clear ho2 hbb hg2 hat2)
        | (at_builtin; refine wpList_append_rows (w2.alloc (.cells #[.slice A5 ys.length c5] 22)) rfl _ _ rfl (w.heap.size ≤ ·) o ps [ys] [.slice A5 ys.length c5] rfl (HOL2.out.turn none (World.grownBy_alloc w2 _ none) (fun k e => by cases e) (fun k e => by cases e)) (Rows.one (HO2.out.turn none (World.grownBy_alloc w2 _ none) (fun k e => by cases e))) (some ⟨w2.heap.size, 0, none⟩) 1 1 rfl rfl (fun _ => ⟨_, rfl, new_cell w2 _ 22⟩) (by simp; omega) (by have := HB2.out.size; simp; omega) ?_; intro v4 w4 ho4 hg4 hat4; have hb4 := ((Below.refl w.heap.size w2).alloc HB2.out.size (.cells #[.slice A5 ys.length c5] 22)).grown hg4 (by have := HB2.out.size; simp; omega) (fun j e => (HOL2.out.base j e).1); have HO4 := Lib.hid ho4; have HB4 := Lib.hid hb4; clear ho4 hb4 hg4 hat4))
      go_roundw
      case rel =>
        have hql := HQL.out
        refine ⟨qs, A3, c3, _, ps ++ [ys], rfl, rfl, hclD, by simp; omega, HRD.out.below (HBW2.out.trans HB4.out), ?_, HO4.out, HB2.out.trans HB4.out⟩
        have := HSP.out
        rw [HST.out] at this
        show splitB bs = _
        rw [this]
        simp
      case measure =>
        have hql := HQL.out
        show qs.length < rs.length
        omega
    · have hrs : rs = [] := List.eq_nil_of_length_eq_zero (by omega)
      subst hrs
      go_wp2_with fail
      go_ret
      have := HSP.out
      rw [show splitB [] = [] from rfl, List.append_nil] at this
      exact ⟨_, rfl, by rw [this]; exact HO.out, HB.out⟩
set_option maxHeartbeats 1600000 in
theorem rcut_any (B cap : Nat) (A : Option Addr) (bs : List Int) (w : World) (hr : RdB w w.heap.size A bs) (hcap : bs.length ≤ cap) (hl : bs.length ≤ 900000) :
    Calls Try.prog 47 #[.slice A bs.length cap] w fun e w' => ∃ v, e = .returned v ∧ OwnI w' w.heap.size v (lensB bs) ∧ Below w.heap.size w w' := by
  have HS := Lib.hid (rsplit_any B cap A bs w hr hcap hl)
  clear hr
  go_enter Try.func47, Try.ntmps47
  go_wp2_with fail
  refine HS.out.mono ?_
  rintro e w1 ⟨v1, rfl, ho1, hB1⟩
  obtain ⟨A1, c1, rfl, hc1, hrl⟩ := ho1.rdl (fun l h => by have := split_len bs h; omega)
  have hcnt := split_count bs
  obtain ⟨ls, hls⟩ : ∃ ls, splitB bs = ls := ⟨_, rfl⟩
  rw [hls] at hrl hcnt hc1
  have HLS := Lib.hid hls
  have HRL := Lib.hid hrl
  have HB1 := Lib.hid hB1
  have hsz := hB1.size
  clear HS ho1 hrl hB1
  rw [hls]
  have hfin : lensB bs = (ls.take ls.length).map (fun l => (l.length : Int)) := by rw [List.take_length, ← hls]; rfl
  have HF := Lib.hid hfin
  clear hls hfin
  go_wp2_with fail
  go_loopw [4, 5] (fun v3 i wr => ∃ (k : Nat) (o : Value), o = v3 ∧ k ≤ ls.length ∧ i = .int .i64 k ∧ Hid (OwnI wr w1.heap.size o ((ls.take k).map (fun l => (l.length : Int)))) ∧ Hid (Below w1.heap.size w1 wr)) (fun _ i _ => ls.length - (intOf i).toNat)
  case atStart => exact ⟨0, _, rfl, by omega, rfl, OwnI.nil _ _, Below.refl _ _⟩
  case round =>
    obtain ⟨k, o, he, hk, rfl, HO, HB⟩ := hrel
    subst he
    by_cases hlt : k < ls.length
    · obtain ⟨ad, A', c', rfl, hcell, _, _⟩ := (HRL.out.below HB.out) k hlt
      obtain ⟨m, hm⟩ : ∃ m, (ls.getD k []).length = m := ⟨_, rfl⟩
      rw [hm] at hcell
      have HM := Lib.hid hm
      clear hm
      have hkl : ((ls.take k).map (fun l => (l.length : Int))).length = k := by simp; omega
      obtain ⟨ns, hns⟩ : ∃ ns, (ls.take k).map (fun l => (l.length : Int)) = ns := ⟨_, rfl⟩
      rw [hns] at HO hkl
      have HNS := Lib.hid hns
      clear hns
      go_wp2_with (at_builtin; refine print_append_num w1.heap.size rfl _ _ 42 3 .i64 8 rfl under42 info3b (by decide) o ns (m : Int) rfl rfl HO.out HB.out HB.out.size (by rw [hkl]; omega) ?_; intro v2 w2 ho2 hB2 hg2 hat2; have HO2 := Lib.hid ho2; have HB2 := Lib.hid hB2; clear ho2 hB2 hg2 hat2)
      go_roundw
      case rel => exact ⟨k + 1, _, rfl, by omega, by go_num, by have := HO2.out; rw [← HNS.out, ← HM.out, take_map_snoc ls k hlt] at this; exact this, HB2.out⟩
      case measure => simp [intOf]; omega
    · obtain rfl : k = ls.length := by omega
      go_wp2_with fail
      go_ret
      refine ⟨_, rfl, ?_, HB1.out.trans (HB.out.mono hsz)⟩
      rw [HF.out]
      exact HO.out.mono hsz

end Go.Proofs.Ytneieogpdjlnbaa
