/- The walks of package chunk's Cut, of the statements' together and tails. Conditions: those that each statement names. -/
import Derived.Test.YtneieogpdjlnbaaKitC
import Derived.Test.YtneieogpdjlnbaaPlainC
set_option linter.unusedVariables false
set_option linter.unusedSimpArgs false
namespace Go.Proofs.Ytneieogpdjlnbaa
open Go Go.RowKit Go.Proofs.YtneieogpdjlnbaaW.PrintWords

theorem OwnI.mono {w : World} {B B' : Nat} {v : Value} {xs : List Int} (h : OwnI w B v xs) (hb : B' ≤ B) : OwnI w B' v xs := by
  obtain ⟨h1, h2⟩ := h
  refine ⟨h1, ?_⟩
  rcases h2 with h2 | ⟨g, cap, cur, e, hg, h3⟩
  · exact .inl h2
  · exact .inr ⟨g, cap, cur, e, Nat.le_trans hb hg, h3⟩
theorem take_map_snoc (ls : List (List Int)) (k : Nat) (hk : k < ls.length) : (ls.take k).map (fun l => (l.length : Int)) ++ [((ls.getD k []).length : Int)] = (ls.take (k + 1)).map (fun l => (l.length : Int)) := by
  have e : ls.getD k [] = ls[k] := by simp [List.getD_eq_getElem?_getD, List.getElem?_eq_getElem hk]
  rw [List.take_succ_eq_append_getElem hk, e, List.map_append, List.map_singleton]
theorem take_flat_snoc (ls : List (List Int)) (k : Nat) (hk : k < ls.length) : (ls.take k).flatten ++ ls.getD k [] = (ls.take (k + 1)).flatten := by
  have e : ls.getD k [] = ls[k] := by simp [List.getD_eq_getElem?_getD, List.getElem?_eq_getElem hk]
  rw [List.take_succ_eq_append_getElem hk, e, List.flatten_append, List.flatten_singleton]

set_option maxHeartbeats 1600000 in
theorem cut_any (S : Nat → Prop) (cap : Nat) (A : Option Addr) (bs : List Int) (w : World) (hr : RdS w S A bs) (hl : bs.length ≤ 900000) (hcap : bs.length ≤ cap) :
    Calls Try.prog 33 #[.slice A bs.length cap] w fun e w' => ∃ v, e = .returned v ∧ OwnI w' w.heap.size v (lensB bs) ∧ Below w.heap.size w w' := by
  have HS := Lib.hid (split_any S cap A bs w hr hl hcap)
  clear hr hcap
  go_enter Try.func33, Try.ntmps33
  go_wp2_with fail
  refine HS.out.mono ?_
  rintro e w1 ⟨v1, rfl, ho1, hB1⟩
  obtain ⟨A1, c1, rfl, hc1, hrl⟩ := ho1.rdl (fun l h => by have := split_len bs h; omega)
  have hcnt := split_count bs
  obtain ⟨ls, hls⟩ : ∃ ls, splitB bs = ls := ⟨_, rfl⟩
  rw [hls] at hrl hcnt hc1
  have HLS := Lib.hid hls
  have HRL := Lib.hid hrl
  have HB1 := Lib.hid hB1
  have hsz := hB1.size
  clear HS ho1 hrl hB1
  rw [hls]
  have hfin : lensB bs = (ls.take ls.length).map (fun l => (l.length : Int)) := by rw [List.take_length, ← hls]; rfl
  have HF := Lib.hid hfin
  clear hls hfin
  go_wp2_with fail
  go_loopw [3, 9] (fun v3 i wr => ∃ (k : Nat) (o : Value), o = v3 ∧ k ≤ ls.length ∧ i = .int .i64 k ∧ Hid (OwnI wr w1.heap.size o ((ls.take k).map (fun l => (l.length : Int)))) ∧ Hid (Below w1.heap.size w1 wr)) (fun _ i _ => ls.length - (intOf i).toNat)
  case atStart => exact ⟨0, _, rfl, by omega, rfl, OwnI.nil _ _, Below.refl _ _⟩
  case round =>
    obtain ⟨k, o, he, hk, rfl, HO, HB⟩ := hrel
    subst he
    by_cases hlt : k < ls.length
    · obtain ⟨ad, A', c', rfl, hcell, _, _⟩ := (HRL.out.below HB.out) k hlt
      obtain ⟨m, hm⟩ : ∃ m, (ls.getD k []).length = m := ⟨_, rfl⟩
      rw [hm] at hcell
      have HM := Lib.hid hm
      clear hm
      have hkl : ((ls.take k).map (fun l => (l.length : Int))).length = k := by simp; omega
      obtain ⟨ns, hns⟩ : ∃ ns, (ls.take k).map (fun l => (l.length : Int)) = ns := ⟨_, rfl⟩
      rw [hns] at HO hkl
      have HNS := Lib.hid hns
      clear hns
      go_wp2_with (at_builtin; refine print_append_num w1.heap.size rfl _ _ 42 3 .i64 8 rfl under42 info3b (by decide) o ns (m : Int) rfl rfl HO.out HB.out HB.out.size (by rw [hkl]; omega) ?_; intro v2 w2 ho2 hB2 hg2 hat2; have HO2 := Lib.hid ho2; have HB2 := Lib.hid hB2; clear ho2 hB2 hg2 hat2)
      go_roundw
      case rel => exact ⟨k + 1, _, rfl, by omega, by go_num, by have := HO2.out; rw [← HNS.out, ← HM.out, take_map_snoc ls k hlt] at this; exact this, HB2.out⟩
      case measure => simp [intOf]; omega
    · obtain rfl : k = ls.length := by omega
      go_wp2_with fail
      go_ret
      refine ⟨_, rfl, ?_, HB1.out.trans (HB.out.mono hsz)⟩
      rw [HF.out]
      exact HO.out.mono hsz

set_option maxHeartbeats 800000 in
theorem together_any (c : Nat) (A : Option Addr) (ls : List (List Int)) (w : World) (hr : RdL w A ls) (hl : ls.flatten.length ≤ 1000000) (hn : ls.length ≤ 1000000) :
    Calls Try.prog 43 #[.slice A ls.length c] w fun e w' => OwnR w' (w.heap.size ≤ ·) e ls.flatten ∧ Below w.heap.size w w' := by
  have HR := Lib.hid hr
  clear hr
  go_enter Try.func43, Try.ntmps43
  go_wp2_with fail
  go_loopw [3, 4] (fun v3 i wr => ∃ (k : Nat) (o : Value), o = v3 ∧ k ≤ ls.length ∧ i = .int .i64 k ∧ Hid (OwnB wr (w.heap.size ≤ ·) o (ls.take k).flatten) ∧ Hid (Below w.heap.size w wr)) (fun _ i _ => ls.length - (intOf i).toNat)
  case atStart => exact ⟨0, _, rfl, by omega, rfl, OwnB.nil _ _, Below.refl _ _⟩
  case round =>
    obtain ⟨k, o, he, hk, rfl, HO, HB⟩ := hrel
    subst he
    by_cases hlt : k < ls.length
    · obtain ⟨ad, A', c', rfl, hcell, _, hrb⟩ := (HR.out.below HB.out) k hlt
      have hsn := take_flat_snoc ls k hlt
      have htl : (ls.take (k + 1)).flatten.length ≤ ls.flatten.length := by
        conv => rhs; rw [← List.take_append_drop (k + 1) ls]
        rw [List.flatten_append, List.length_append]; omega
      obtain ⟨m, hm⟩ : ∃ m, ls.getD k [] = m := ⟨_, rfl⟩
      obtain ⟨ns, hns⟩ : ∃ ns, (ls.take k).flatten = ns := ⟨_, rfl⟩
      rw [hm] at hcell hrb
      rw [hns] at HO
      rw [hm, hns] at hsn
      have hlen : ns.length + m.length ≤ 1000000 := by rw [← List.length_append, hsn]; omega
      have HSN := Lib.hid hsn
      have HRB := Lib.hid hrb
      clear hm hns hsn hrb htl
      go_wp2_with (at_builtin; refine wpList_append_bytes _ rfl _ _ rfl (w.heap.size ≤ ·) o ns m rfl HO.out _ A' c' rfl HRB.out (by omega) HB.out.size ?_; intro v2 w2 ho2 hg2 hat2; have hB2 := HB.out.grown hg2 HB.out.size (fun j e => HO.out.base j e); have HO2 := Lib.hid ho2; have HB2 := Lib.hid hB2; clear ho2 hB2 hg2 hat2)
      go_roundw
      case rel => exact ⟨k + 1, _, rfl, by omega, by go_num, by have := HO2.out; rw [HSN.out] at this; exact this, HB2.out⟩
      case measure => simp [intOf]; omega
    · obtain rfl : k = ls.length := by omega
      go_wp2_with fail
      go_ret
      have := HO.out
      rw [List.take_length] at this
      exact ⟨⟨_, rfl, this⟩, HB.out⟩
end Go.Proofs.Ytneieogpdjlnbaa
