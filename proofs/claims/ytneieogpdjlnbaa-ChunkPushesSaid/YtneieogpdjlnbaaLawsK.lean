/- The walk of layer 6's law ChunkCuts: it returns true and writes nothing that was there. Conditions: none beyond how the arguments lie in memory. -/
import Derived.Test.YtneieogpdjlnbaaLawsG
import Derived.Test.YtneieogpdjlnbaaRefA
set_option linter.unusedVariables false
set_option linter.unusedSimpArgs false
namespace Go.Proofs.Ytneieogpdjlnbaa
open Go Go.RowKit Go.Proofs.YtneieogpdjlnbaaW.PrintWords

/-- A list of n rows whose blocks are bytes, whatever they read. -/
def OvL (W : World) (S : Nat → Prop) (A : Option Addr) (n : Nat) : Prop :=
  n = 0 ∨ ∃ (go : Nat) (vs sp : List Value), A = some ⟨go, 0, none⟩ ∧ Blk W go 22 (vs ++ sp).toArray ∧ vs.length = n ∧ ∀ j, j < n → ∃ g m c, vs.getD j undef = .slice (some ⟨g, 0, none⟩) m c ∧ S g ∧ ByteBlk W g c ∧ c ≤ maxLen
theorem OwnL.ov {W : World} {S : Nat → Prop} {A : Option Addr} {c : Nat} {ls : List (List Int)} (h : OwnL W S (.slice A ls.length c) ls) (hne : ∀ l ∈ ls, 0 < l.length) : OvL W S A ls.length := by
  rcases h with ⟨_, rfl⟩ | ⟨g, vs, sp, e, hg, h1, h2, h3⟩
  · exact .inl rfl
  · injection e with eA
    refine .inr ⟨g, vs, sp, eA, h2, h3.1, fun j hj => ?_⟩
    obtain ⟨hb, hv⟩ := h3.2 j hj
    have hl := hne _ (getD_mem [] hj)
    rcases hv with ⟨_, hv⟩ | ⟨g', sp', ev, hs, hb', hm, hblk⟩
    · rw [hv] at hl; simp at hl
    · refine ⟨g', _, _, ev, hs, ⟨ls.getD j [] ++ sp', fun x hx => ?_, by simp, hblk⟩, hm⟩
      rcases List.mem_append.1 hx with hx | hx
      · exact hb x hx
      · exact hb' x hx
theorem ByteBlk.same_cap {W : World} {g c c' : Nat} (h : ByteBlk W g c) (h' : ByteBlk W g c') : c = c' := by
  obtain ⟨zs, _, hl, hb⟩ := h
  obtain ⟨zs', _, hl', hb'⟩ := h'
  unfold Blk at hb hb'
  rw [hb] at hb'
  injection hb' with hb'
  injection hb' with hb'
  have := congrArg Array.size hb'
  simp [nums] at this
  omega
theorem OvL.at_ {W : World} {S : Nat → Prop} {A : Option Addr} {n : Nat} (h : OvL W S A n) (k : Nat) (hk : k < n) : ∃ ad g m c, A = some ad ∧ W.cell? (ad.add k) = some (.slice (some ⟨g, 0, none⟩) m c) ∧ S g ∧ ByteBlk W g c ∧ c ≤ maxLen ∧
    ∀ W', ByteBlk W' g c → Turned W W' g → OvL W' S A n := by
  rcases h with h | ⟨go, vs, sp, eA, hb, hl, hr⟩
  · omega
  · obtain ⟨g, m, c, ev, hs, hbb, hm⟩ := hr k hk
    refine ⟨_, g, m, c, eA, ?_, hs, hbb, hm, fun W' hb' ht => ?_⟩
    · have hkv : k < vs.length := by omega
      rw [add_plain, hb.cell k, List.getElem?_toArray, List.getElem?_append_left hkv, List.getElem?_eq_getElem hkv, ← ev]
      simp [List.getD_eq_getElem?_getD, List.getElem?_eq_getElem hkv]
    · have hne : go ≠ g := by
        rintro rfl
        obtain ⟨zs, _, _, hbz⟩ := hbb
        exact not_bytes hb (by decide) _ hbz
      refine .inr ⟨go, vs, sp, eA, hb.grown ht.1 (by simp; exact hne), hl, fun j hj => ?_⟩
      obtain ⟨g2, m2, c2, ev2, hs2, hbb2, hm2⟩ := hr j hj
      refine ⟨g2, m2, c2, ev2, hs2, ?_, hm2⟩
      by_cases e : g2 = g
      · subst e
        rw [hbb2.same_cap hbb]
        exact hb'
      · exact hbb2.keep (ht.1.block g2 hbb2.lt (by simp; exact e))

set_option maxRecDepth 100000 in
set_option maxHeartbeats 3200000 in
theorem ccuts_walk (A : Option Addr) (cap : Nat) (bs : List Int) (w : World) (hcap : bs.length ≤ cap) (hr : RdB w w.heap.size A bs) (hl : bs.length ≤ 20000) :
    Calls Try.prog 13 #[.slice A bs.length cap] w fun e w' => e = .returned (.bool true) ∧ Below w.heap.size w w' := by
  have hd : decide ((20000 : Int) < (bs.length : Int)) = false := by simp; omega
  have hbb := hr.1
  have HR := Lib.hid hr
  clear hr
  have hne : ∀ l ∈ splitB bs, 0 < l.length := fun l h => split_ne bs h
  have hlb : ∀ l ∈ splitB bs, l.length ≤ 1000000 := fun l h => by have := split_len bs h; omega
  have hcnt := split_count bs
  obtain ⟨ls, hls⟩ : ∃ ls, splitB bs = ls := ⟨_, rfl⟩
  have HLS := Lib.hid hls
  have HNE := Lib.hid hne
  have HLB := Lib.hid hlb
  rw [hls] at HNE HLB hcnt
  clear hne hlb hls
  go_enter Try.func13, Try.ntmps13
  go_wp2_with fail
  clear hd
  refine (lent_any w.heap.size cap A bs w HR.out (by omega)).mono ?_
  rintro e w1 ⟨⟨rfl, hL1⟩, hB1⟩
  have HL1 := Lib.hid hL1
  have HB1 := Lib.hid hB1
  have hs1 : w.heap.size < w1.heap.size := hL1.lt
  clear hL1 hB1
  go_wp2_with fail
  refine (split_any (· = w.heap.size) (bs.length + 3) (some ⟨w.heap.size, 0, none⟩) bs w1 (HL1.out.rd0 hbb (by omega)) (by omega) (by omega)).mono ?_
  rintro e w2 ⟨v2, rfl, ho2, hB2⟩
  rw [HLS.out] at ho2
  have hs2 := hB2.size
  have hL2 : Lent w2 w.heap.size bs := (hB2.block _ hs1).trans HL1.out
  have HO2 : Hid (OwnL w2 (fun k => w1.heap.size ≤ k ∧ k < w2.heap.size) v2 ls) := ho2.mono (fun k hk hlt => ⟨hk, hlt⟩)
  have HL2 := Lib.hid hL2
  have HB2 := Lib.hid (HB1.out.trans (hB2.mono (by omega)))
  clear ho2 hB2 hL2 HL1 HB1
  go_wp2_with fail
  refine (cut_any (· = w.heap.size) (bs.length + 3) (some ⟨w.heap.size, 0, none⟩) bs w2 (HL2.out.rd0 hbb (by omega)) (by omega) (by omega)).mono ?_
  rintro e w3 ⟨v3, rfl, ho3, hB3⟩
  have hs3 := hB3.size
  have HO2' : Hid (OwnL w3 (fun k => w1.heap.size ≤ k ∧ k < w2.heap.size) v2 ls) := HO2.out.keep (fun k hk hlt => hB3.block k hlt)
  have HL3 : Hid (Lent w3 w.heap.size bs) := (hB3.block _ (by omega)).trans HL2.out
  have HO3 := Lib.hid ho3
  have HB3 := Lib.hid (HB2.out.trans (hB3.mono (by omega)))
  clear ho3 hB3 HO2 HL2 HB2
  go_wp2_with fail
  refine (rsplit_any 0 cap A bs w3 (HR.out.up HB3.out) hcap (by omega)).mono ?_
  rintro e w4 ⟨v4, rfl, ho4, hB4⟩
  rw [HLS.out] at ho4
  have hs4 := hB4.size
  have HO2 : Hid (OwnL w4 (fun k => w1.heap.size ≤ k ∧ k < w2.heap.size) v2 ls) := HO2'.out.keep (fun k hk hlt => hB4.block k hlt)
  have HL4 : Hid (Lent w4 w.heap.size bs) := (hB4.block _ (by omega)).trans HL3.out
  have HO3' := Lib.hid (HO3.out.below hB4)
  have HO4 := Lib.hid ho4
  have HB4 := Lib.hid (HB3.out.trans (hB4.mono (by omega)))
  obtain ⟨A2, c2, rfl, hc2, hr2⟩ := HO2.out.rdl HLB.out
  obtain ⟨A4, c4, rfl, hc4, hr4⟩ := ho4.rdl HLB.out
  have HR2 := Lib.hid hr2
  have HR4 := Lib.hid hr4
  clear ho4 hB4 HO2' HL3 HO3 HB3 hr2 hr4
  go_wp2_with fail
  refine (sameLists_any c2 c4 A2 A4 ls ls w4 HR2.out HR4.out (by omega) (by omega)).mono ?_
  rintro e w5 ⟨rfl, hB5⟩
  rw [decide_eq_true rfl]
  have hs5 := hB5.size
  have HO2' : Hid (OwnL w5 (fun k => w1.heap.size ≤ k ∧ k < w2.heap.size) (.slice A2 ls.length c2) ls) := HO2.out.keep (fun k hk hlt => hB5.block k hlt)
  have HL5 : Hid (Lent w5 w.heap.size bs) := (hB5.block _ (by omega)).trans HL4.out
  have HO3 := Lib.hid (HO3'.out.below hB5)
  have HO4' : Hid (OwnL w5 (w3.heap.size ≤ ·) (.slice A4 ls.length c4) ls) := HO4.out.keep (fun k hk hlt => hB5.block k hlt)
  have HB5 := Lib.hid (HB4.out.trans (hB5.mono (by omega)))
  clear hB5 HO2 HL4 HO3' HO4 HB4 HR2 HR4
  go_wp2_with fail
  refine (rcut_any 0 cap A bs w5 (HR.out.up HB5.out) hcap (by omega)).mono ?_
  rintro e w6 ⟨v6, rfl, ho6, hB6⟩
  have hs6 := hB6.size
  have HO2 : Hid (OwnL w6 (fun k => w1.heap.size ≤ k ∧ k < w2.heap.size) (.slice A2 ls.length c2) ls) := HO2'.out.keep (fun k hk hlt => hB6.block k hlt)
  have HL6 : Hid (Lent w6 w.heap.size bs) := (hB6.block _ (by omega)).trans HL5.out
  have HO4 : Hid (OwnL w6 (w3.heap.size ≤ ·) (.slice A4 ls.length c4) ls) := HO4'.out.keep (fun k hk hlt => hB6.block k hlt)
  have HB6 := Lib.hid (HB5.out.trans (hB6.mono (by omega)))
  obtain ⟨A3, c3, rfl, hr3⟩ := (HO3.out.below hB6).rd
  obtain ⟨A6, c6, rfl, hr6⟩ := ho6.rd
  have hll : (lensB bs).length ≤ 20000 := by unfold lensB; rw [List.length_map, HLS.out]; omega
  obtain ⟨ns, hns⟩ : ∃ ns, lensB bs = ns := ⟨_, rfl⟩
  rw [hns] at hr3 hr6 hll ⊢
  have HR3 := Lib.hid hr3
  have HR6 := Lib.hid hr6
  clear hns hr3 hr6 ho6 hB6 HO2' HL5 HO3 HO4' HB5
  go_wp2_with fail
  refine (sameInts_any c3 c6 A3 A6 ns ns w6 HR3.out HR6.out (by omega) (by omega)).mono ?_
  rintro e w7 ⟨rfl, hB7⟩
  rw [decide_eq_true rfl]
  have hs7 := hB7.size
  have hov := (HO2.out.keep (w' := w7) (fun k hk hlt => hB7.block k hlt)).ov HNE.out
  have HOV := Lib.hid hov
  have HL7 : Hid (Lent w7 w.heap.size bs) := (hB7.block _ (by omega)).trans HL6.out
  have HO4' : Hid (OwnL w7 (w3.heap.size ≤ ·) (.slice A4 ls.length c4) ls) := HO4.out.keep (fun k hk hlt => hB7.block k hlt)
  have HB7 := Lib.hid (HB6.out.trans (hB7.mono (by omega)))
  clear hov hB7 HO2 HL6 HO4 HB6 HR3 HR6
  go_wp2_with fail
  go_loopw [8] (fun i wr => ∃ k : Nat, k ≤ ls.length ∧ i = .int .i64 k ∧ Hid (OvL wr (fun k => w1.heap.size ≤ k ∧ k < w2.heap.size) A2 ls.length) ∧ Hid (Far w7 wr (fun k => w1.heap.size ≤ k ∧ k < w2.heap.size))) (fun i _ => ls.length - (intOf i).toNat)
  case atStart => exact ⟨0, by omega, rfl, HOV, Far.of_below (Below.refl _ _)⟩
  case round =>
    obtain ⟨k, hk, rfl, HO, HF⟩ := hrel
    by_cases hlt : k < ls.length
    · obtain ⟨ad, g, m, c, rfl, hcell, hsg, hbk, hm, hnext⟩ := HO.out.at_ k hlt
      have HN := Lib.hid hnext
      have HOB := Lib.hid (over_any g m c wr hbk hm)
      clear hnext hbk hm
      go_wp2_with fail
      refine HOB.out.mono ?_
      rintro e w8 ⟨rfl, hb8, ht8⟩
      have HO8 := Lib.hid (HN.out w8 hb8 ht8)
      have HF8 := Lib.hid (HF.out.grown ht8.1 (fun j e => by cases e; exact .inl hsg))
      clear hb8 ht8
      go_wp2_with fail
      go_roundw
      case rel => exact ⟨k + 1, by omega, by go_num, HO8, HF8⟩
      case measure => simp [intOf]; omega
    · have hBr : Below w.heap.size w wr := HB7.out.trans (HF.out.below (by omega) (fun j hj => by omega))
      have hLr : Lent wr w.heap.size bs := (HF.out.same _ (by omega) (by omega)).trans HL7.out
      have hO4r : OwnL wr (w3.heap.size ≤ ·) (.slice A4 ls.length c4) ls := HO4'.out.keep (fun j hj hlt => HF.out.same j hlt (by omega))
      have HBR := Lib.hid hBr
      have HK := Lib.hid (kept_any w.heap.size wr.heap.size cap A bs wr hLr (HR.out.up hBr) (by omega))
      have HO4r := Lib.hid hO4r
      clear hBr hLr hO4r
      go_wp2_with fail
      refine HK.out.mono ?_
      rintro e w8 ⟨rfl, hB8⟩
      have HB8 := Lib.hid (HBR.out.trans (hB8.mono HBR.out.size))
      have HO8 : Hid (OwnL w8 (w3.heap.size ≤ ·) (.slice A4 ls.length c4) ls) := HO4r.out.keep (fun j hj hlt => hB8.block j hlt)
      clear hB8 HK HO4r HBR
      go_wp2_with fail
      refine (split_any (· < w8.heap.size) cap A bs w8 (HR.out.up HB8.out).rdS (by omega) hcap).mono ?_
      rintro e w9 ⟨v9, rfl, ho9, hB9⟩
      rw [HLS.out] at ho9
      obtain ⟨A9, c9, rfl, hc9, hr9⟩ := ho9.rdl HLB.out
      obtain ⟨A4', c4', e4, _, hr4⟩ := (HO8.out.keep (w' := w9) (fun j hj hlt => hB9.block j hlt)).rdl HLB.out
      injection e4 with e4 _ e4c
      subst e4 e4c
      have HR9 := Lib.hid hr9
      have HR4 := Lib.hid hr4
      have HB9 := Lib.hid (HB8.out.trans (hB9.mono HB8.out.size))
      clear ho9 hB9 hr9 hr4 HO8 HB8
      go_wp2_with fail
      refine (sameLists_any c9 c4 A9 A4 ls ls w9 HR9.out HR4.out (by omega) (by omega)).mono ?_
      rintro e w10 ⟨rfl, hB10⟩
      rw [decide_eq_true rfl]
      have HB10 := Lib.hid (HB9.out.trans (hB10.mono HB9.out.size))
      clear hB10 HB9 HR9 HR4
      go_wp2_with fail
      refine (awake6_any w10).mono ?_
      rintro e w11 ⟨rfl, hB11⟩
      have HB11 := Lib.hid (HB10.out.trans (hB11.mono HB10.out.size))
      clear hB11
      go_wp2_with fail
      go_ret
      exact ⟨rfl, HB11.out⟩

set_option maxHeartbeats 800000 in
theorem ChunkCuts_walk (a0 : Option Addr) (len0 cap0 : Nat) (z0 : List Int) (w : World) (w0 : IsRow .u8 w a0 len0 cap0 z0) :
    Calls Try.prog 13 #[.slice a0 len0 cap0] w fun e w' => e = .returned (.bool true) ∧ Below w.heap.size w w' := by
  by_cases hn : len0 ≤ 20000
  · obtain ⟨xs, rfl, hc, hr⟩ := w0.rd (by omega)
    exact ccuts_walk _ _ _ _ hc hr (by omega)
  · have hd : decide ((20000 : Int) < (len0 : Int)) = true := by simp; omega
    have hl := w0.len
    clear w0
    go_enter Try.func13, Try.ntmps13
    go_wp2_with fail
    go_ret
    exact ⟨rfl, Below.refl _ _⟩
end Go.Proofs.Ytneieogpdjlnbaa
