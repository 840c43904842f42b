/- The walk of layer 6's law ChunkPieces: it returns true and writes nothing that was there. Conditions: none beyond how the arguments lie in memory. -/
import Derived.Test.YtneieogpdjlnbaaLawsG
set_option linter.unusedVariables false
set_option linter.unusedSimpArgs false
namespace Go.Proofs.Ytneieogpdjlnbaa
open Go Go.RowKit Go.Proofs.YtneieogpdjlnbaaW.PrintWords

theorem OwnL.us {w : World} {S : Nat → Prop} {v : Value} {ls : List (List Int)} (h : OwnL w S v ls) : ∃ A c us, v = .slice A ls.length c ∧ Rows w S us ls ∧ (0 < ls.length → ∃ ad, A = some ad ∧ ∀ j u, us[j]? = some u → w.cell? (ad.add j) = some u) := by
  rcases h with ⟨e, rfl⟩ | ⟨g, vs, sp, e, hg, h1, h2, h3⟩
  · exact ⟨none, 0, [], e, Rows.nil _ _, fun hp => by simp at hp⟩
  · refine ⟨_, _, vs, e, h3, fun hp => ⟨_, rfl, fun j u hu => ?_⟩⟩
    have hj : j < vs.length := by
      rcases Nat.lt_or_ge j vs.length with h | h
      · exact h
      · rw [List.getElem?_eq_none h] at hu; cases hu
    rw [add_plain, h2.cell j, List.getElem?_toArray, List.getElem?_append_left hj]
    exact hu
theorem IsRow.at_ {w : World} {a : Option Addr} {len cap : Nat} {zs : List Int} (h : IsRow .i64 w a len cap zs) (k : Nat) (hk : k < len) : ∃ ad x, a = some ad ∧ w.cell? (ad.add k) = some (.int .i64 x) ∧ (Lit.int .i64 x).wf = true := by
  rcases h with ⟨rfl, rfl, rfl, rfl⟩ | ⟨x, rfl, h1, h2, h3, h4, h5⟩
  · omega
  · exact ⟨x, _, rfl, h4 k (by omega), h5 _ (getD_mem' zs k (by omega))⟩
where
  getD_mem' (zs : List Int) (k : Nat) (hk : k < zs.length) : zs.getD k 0 ∈ zs := by
    rw [List.getD_eq_getElem?_getD, List.getElem?_eq_getElem hk]
    exact List.getElem_mem hk

theorem RdS.rdB_lt {w : World} {B : Nat} {A : Option Addr} {xs : List Int} (h : RdS w (· < B) A xs) : RdB w B A xs := h
theorem cuts_count (bs : List Int) : (cutRun [] bs).1.length ≤ bs.length := by
  have h1 := count_le (ls := (cutRun [] bs).1) (fun l h => by have := ends_pos (cutRun_ends bs [] l h); omega)
  have h2 := congrArg List.length (cutRun_flat bs [])
  rw [List.length_append, List.nil_append] at h2
  omega
/-- What ChunkPieces' loop keeps. -/
def PieI (w : World) (g : Nat) (bs : List Int) (n k : Nat) (dn rs : List Int) (gv : Value) (A : Option Addr) (c : Nat) (lv : Value) (SL : Nat → Prop) (W : World) : Prop :=
  dn ++ rs = bs ∧ (k = n + 1 → rs = []) ∧ rs.length ≤ c ∧ RdB W w.heap.size A rs ∧ CutAt W g (cutRun [] dn).2 lv false ∧ OwnB W SL lv (cutRun [] dn).2 ∧
    (∀ k, SL k → w.heap.size ≤ k ∧ k ≠ g ∧ k < W.heap.size) ∧ OwnL W (fun k => w.heap.size ≤ k ∧ k ≠ g ∧ ¬ SL k) gv (cutRun [] dn).1 ∧ Below w.heap.size w W

/-- A push, as the loop wants it told: got has grown by what was told. -/
theorem pie_push {w : World} {g : Nat} (hg : w.heap.size ≤ g) {bs dn ys rs : List Int} {n k : Nat} {gv : Value} {A : Option Addr} {c : Nat} {lv : Value} {SL : Nat → Prop} {W : World} (hI : PieI w g bs n k dn (ys ++ rs) gv A c lv SL W) (A' : Option Addr) (c' : Nat) (hr : RdB W w.heap.size A' ys) (hc' : ys.length ≤ c') (hbl : bs.length ≤ 8000) :
    Calls Try.prog 32 #[.pointer (some ⟨g, 0, none⟩), .slice A' ys.length c'] W fun e W' => ∃ v lv' SL', e = .returned (.tuple #[v, .int .i64 0]) ∧ CutAt W' g (cutRun [] (dn ++ ys)).2 lv' false ∧ OwnB W' SL' lv' (cutRun [] (dn ++ ys)).2 ∧
      (∀ k, SL' k → w.heap.size ≤ k ∧ k ≠ g ∧ k < W'.heap.size) ∧ OwnL W' (fun k => w.heap.size ≤ k ∧ k ≠ g ∧ ¬ SL' k) v (cutRun (cutRun [] dn).2 ys).1 ∧ OwnL W' (fun k => w.heap.size ≤ k ∧ k ≠ g ∧ ¬ SL' k) gv (cutRun [] dn).1 ∧
      (cutRun [] (dn ++ ys)).1 = (cutRun [] dn).1 ++ (cutRun (cutRun [] dn).2 ys).1 ∧ Below w.heap.size w W' := by
  obtain ⟨h1, h2, h3, h4, h5, h6, h7, h8, h9⟩ := hI
  have hlen : dn.length + (ys.length + rs.length) = bs.length := by rw [← h1]; simp
  have hle := (cutRun_le dn [] (by simp)).2
  refine (cpush_any g c' SL A' (cutRun [] dn).2 ys lv W h5 h6 (fun k hk => ⟨(h7 k hk).2.1, (h7 k hk).2.2⟩) (hr.rdS.mono (fun k hk _ => ⟨by omega, fun hs => by have := (h7 k hs).1; omega⟩)) (by omega) hc').mono ?_
  rintro e W' ⟨v, lv', S1, S2, rfl, q1, q2, q3, q4, q5, q6⟩
  have hap := cutRun_append dn ys []
  have hap1 : (cutRun [] (dn ++ ys)).1 = (cutRun [] dn).1 ++ (cutRun (cutRun [] dn).2 ys).1 := by rw [hap]
  have hap2 : (cutRun [] (dn ++ ys)).2 = (cutRun (cutRun [] dn).2 ys).2 := by rw [hap]
  have hgW := h5.lt
  have hsz := h9.size
  have hlow : ∀ k, SL k ∨ W.heap.size ≤ k → w.heap.size ≤ k ∧ k ≠ g := fun k hk => by
    rcases hk with hk | hk
    · exact ⟨(h7 k hk).1, (h7 k hk).2.1⟩
    · omega
  refine ⟨v, lv', fun k => S2 k ∧ k < W'.heap.size, rfl, ?_, ?_, ?_, ?_, ?_, hap1, ?_⟩
  · rw [hap2]; exact q1
  · rw [hap2]; exact q3.mono (fun k hk hlt => ⟨hk, hlt⟩)
  · intro k hk
    exact ⟨(hlow k (q5 k (.inr hk.1))).1, (hlow k (q5 k (.inr hk.1))).2, hk.2⟩
  · exact q2.mono (fun k hk hlt => ⟨(hlow k (q5 k (.inl hk))).1, (hlow k (q5 k (.inl hk))).2, fun hs => q4 k hk hs.1⟩)
  · refine (h8.mono (S' := fun k => w.heap.size ≤ k ∧ k ≠ g ∧ ¬ SL k ∧ k < W.heap.size) (fun k hk hlt => ⟨hk.1, hk.2.1, hk.2.2, hlt⟩)).keep (fun k hk hlt => q6.same k hlt (by
      rintro (h | h)
      · exact hk.2.1 h
      · exact hk.2.2.1 h)) |>.mono (fun k hk hlt => ⟨hk.1, hk.2.1, fun hs => by
      rcases q5 k (.inr hs.1) with h | h
      · exact hk.2.2.1 h
      · omega⟩)
  · exact h9.trans (q6.below (by omega) (fun k hk => by
      rcases hk with h | h
      · omega
      · exact (h7 k h).1))

set_option maxRecDepth 100000 in
set_option maxHeartbeats 3200000 in
theorem pieces_walk (A : Option Addr) (cap : Nat) (bs : List Int) (A2 : Option Addr) (n2 cap2 : Nat) (z2 : List Int) (w : World) (hcap : bs.length ≤ cap) (hr : RdB w w.heap.size A bs) (hl : bs.length ≤ 8000) (hc2 : IsRow .i64 w A2 n2 cap2 z2) (hn2 : n2 ≤ 100) :
    Calls Try.prog 16 #[.slice A bs.length cap, .slice A2 n2 cap2] w fun e w' => e = .returned (.bool true) ∧ Below w.heap.size w w' := by
  have hd1 : decide ((8000 : Int) < (bs.length : Int)) = false := by simp; omega
  have hd2 : decide ((100 : Int) < (n2 : Int)) = false := by simp; omega
  have HR := Lib.hid hr
  have HC2 := Lib.hid hc2
  clear hr hc2
  go_enter Try.func16, Try.ntmps16
  go_wp2_with fail
  refine (awake6_any w).mono ?_
  rintro e w1 ⟨rfl, hB1⟩
  have HB1 := Lib.hid hB1
  clear hB1
  go_wp2_with fail
  refine (new_any w1).mono ?_
  rintro e w2 ⟨g, rfl, hg, hc, hB2⟩
  have hg0 : w.heap.size ≤ g := Nat.le_trans HB1.out.size hg
  have hB2' := HB1.out.trans (hB2.mono HB1.out.size)
  have hI0 : PieI w g bs n2 0 [] bs (.slice none 0 0) A cap (.slice none 0 0) (fun _ => False) w2 := ⟨rfl, fun h => by omega, hcap, HR.out.below hB2', hc, OwnB.nil _ _, fun k hk => hk.elim, OwnL.nil _ _, hB2'⟩
  have HI0 := Lib.hid hI0
  clear hI0 hB2' hB2 hc hd1 hd2 HB1
  go_wp2_with fail
  go_loopw [7, 8, 9] (fun v7 v8 v9 wr => ∃ (k : Nat) (dn rs : List Int) (gv : Value) (A' : Option Addr) (c' : Nat) (lv : Value) (SL : Nat → Prop), gv = v7 ∧ .slice A' rs.length c' = v8 ∧ v9 = .int .i64 k ∧ k ≤ n2 + 1 ∧ Hid (PieI w g bs n2 k dn rs gv A' c' lv SL wr)) (fun _ _ v9 _ => n2 + 1 - (intOf v9).toNat)
  case atStart => exact ⟨0, [], bs, _, A, cap, _, _, rfl, rfl, rfl, by omega, HI0⟩
  case round =>
    obtain ⟨k, dn, rs, gv, A', c', lv, SL, he7, he8, rfl, hk, HI⟩ := hrel
    subst he7
    subst he8
    by_cases hlt : k ≤ n2
    · have hk1 : decide ((k : Int) ≤ (n2 : Int)) = true := by simp; omega
      have hrl : rs.length ≤ bs.length := by rw [← HI.out.1]; simp
      by_cases hk2 : k < n2
      · obtain ⟨ad, x, rfl, hcx, hwx⟩ := HC2.out.at_ k hk2
        have hcx' := (HI.out.2.2.2.2.2.2.2.2.cell (World.block_lt_of_cell? w _ hcx)).trans hcx
        have hpick := pick_any x ((rs.length : Int) + 1) wr hwx (by omega) (by omega)
        have HPK := Lib.hid hpick
        clear hpick hwx hcx
        go_wp2_with fail
        refine HPK.out.mono ?_
        rintro e wr' ⟨⟨m, rfl, hm0, _⟩, rfl⟩
        have hm : m ≤ rs.length := by have := hm0 (by omega); omega
        have hend : k = n2 → rs.drop m = [] := fun h => by omega
        clear hm0 HPK
        obtain ⟨ys, hys⟩ : ∃ ys, rs.take m = ys := ⟨_, rfl⟩
        obtain ⟨qs, hqs⟩ : ∃ qs, rs.drop m = qs := ⟨_, rfl⟩
        have hyq : ys ++ qs = rs := by rw [← hys, ← hqs]; exact List.take_append_drop m rs
        obtain ⟨hcutT, hclT, hcrT⟩ := cutT A' c' rs ys (m : Int) (by omega) (by omega) HI.out.2.2.1 (by rw [← hys]; congr 1)
        obtain ⟨A3, c3, hcutD, hclD, hcrD⟩ := cutD A' c' rs qs (m : Int) (by omega) (by omega) HI.out.2.2.1 (by rw [← hqs]; congr 1)
        have hI := HI.out
        have hrT := hcrT _ _ hI.2.2.2.1
        have hrD := hcrD _ _ hI.2.2.2.1
        rw [← hyq] at hI
        have HP := Lib.hid (pie_push hg0 hI A' c' hrT hclT hl)
        have hdr : dn ++ ys ++ qs = bs := by rw [List.append_assoc]; exact hI.1
        have HDR := Lib.hid hdr
        have HRD := Lib.hid hrD
        have hend2 : k + 1 = n2 + 1 → qs = [] := fun h => by rw [← hqs]; exact hend (by omega)
        have HE2 := Lib.hid hend2
        have HCLD := Lib.hid hclD
        have hcnt := cuts_count (dn ++ ys)
        have hdl : (dn ++ ys).length ≤ bs.length := by rw [← hdr]; simp
        have HB := Lib.hid hI.2.2.2.2.2.2.2.2
        clear hys hqs hyq hI hrT hrD hdr hend hend2 hclD hclT hcrT hcrD
        go_wp2_with fail
        refine HP.out.mono ?_
        rintro e w3 ⟨v, lv', SL', rfl, q1, q2, q3, q4, q5, q6, q7⟩
        rw [q6, List.length_append] at hcnt
        obtain ⟨A7, c7, us, rfl, hus, hur⟩ := q4.us
        obtain ⟨A5, c5, e5⟩ := q2.shape
        subst e5
        have hle := (cutRun_le (dn ++ ys) [] (by simp)).2
        obtain ⟨ll, hll⟩ : ∃ ll, ((cutRun [] (dn ++ ys)).2).length = ll := ⟨_, rfl⟩
        rw [hll] at q1 q2 hle
        have d9 : decide ((1024 : Int) < (ll : Int)) = false := by simp; omega
        have Q1 := Lib.hid q1
        have Q2 := Lib.hid q2
        have Q3 := Lib.hid q3
        have Q5 := Lib.hid q5
        have Q6 := Lib.hid q6
        have Q7 := Lib.hid q7
        have HUS := Lib.hid hus
        have HUR := Lib.hid hur
        have HLL := Lib.hid hll
        have hg3 := q1.lt
        have hs3 := q7.size
        clear q1 q2 q3 q4 q5 q6 q7 hus hur hll HP HI
        obtain ⟨xn, hxn⟩ : ∃ xn, (cutRun (cutRun [] dn).2 ys).1.length = xn := ⟨_, rfl⟩
        have HXN := Lib.hid hxn
        rw [hxn] at hcnt
        simp only [hxn]
        clear hxn
        go_wp2_with fail
        refine (left_any g _ A5 ll c5 false w3 Q1.out).mono ?_
        rintro e w3' ⟨rfl, rfl⟩
        go_wp2_with (at_builtin; refine wpList_append_rows _ rfl _ _ rfl (fun k => w.heap.size ≤ k ∧ k ≠ g ∧ ¬ SL' k) gv _ _ us rfl Q5.out HUS.out A7 c7 xn HXN.out.symm rfl HUR.out (by rw [HXN.out]; omega) ⟨by omega, by omega, fun h => by have := (Q3.out _ h).2.2; omega⟩ ?_; intro v4 w4 ho4 hg4 hat4; have HO4 := Lib.hid ho4; have HG4 := Lib.hid hg4; clear ho4 hg4 hat4)
        go_roundw
        case rel =>
          refine ⟨k + 1, dn ++ ys, qs, _, A3, c3, (.slice A5 ll c5), SL', rfl, rfl, by go_num, by omega, ?_⟩
          have hb := Q5.out.base
          have hB3 := Q7.out
          have hB4 := hB3.grown HG4.out hB3.size (fun j e => (hb j e).1.1)
          have hs4 := HG4.out.size
          refine ⟨HDR.out, HE2.out, HCLD.out, (HRD.out.rdS.keep (fun j hj hlt => ?_)).rdB_lt, Q1.out.grown HG4.out (fun e => (hb g e.symm).1.2.1 rfl), Q2.out.keep (fun j hj hlt => HG4.out.block j hlt (fun e => (hb j e.symm).1.2.2 hj)), fun j hj => ?_, ?_, hB4⟩
          · exact (hB4.block j hj).trans (HB.out.block j hj).symm
          · have := Q3.out j hj
            omega
          · rw [Q6.out]
            exact HO4.out
        case measure => simp [intOf]; omega
      · obtain ⟨m, hmm⟩ : ∃ m, rs.length = m := ⟨_, rfl⟩
        have hm : m ≤ rs.length := by omega
        have hend : k = n2 → rs.drop m = [] := fun h => by rw [← hmm]; exact List.drop_length
        have hdk : decide ((k : Int) < (n2 : Int)) = false := by simp; omega
        rw [hmm] at hrl
        obtain ⟨ys, hys⟩ : ∃ ys, rs.take m = ys := ⟨_, rfl⟩
        obtain ⟨qs, hqs⟩ : ∃ qs, rs.drop m = qs := ⟨_, rfl⟩
        have hyq : ys ++ qs = rs := by rw [← hys, ← hqs]; exact List.take_append_drop m rs
        obtain ⟨hcutT, hclT, hcrT⟩ := cutT A' c' rs ys (m : Int) (by omega) (by omega) HI.out.2.2.1 (by rw [← hys]; congr 1)
        obtain ⟨A3, c3, hcutD, hclD, hcrD⟩ := cutD A' c' rs qs (m : Int) (by omega) (by omega) HI.out.2.2.1 (by rw [← hqs]; congr 1)
        have hI := HI.out
        have hrT := hcrT _ _ hI.2.2.2.1
        have hrD := hcrD _ _ hI.2.2.2.1
        rw [← hyq] at hI
        have HP := Lib.hid (pie_push hg0 hI A' c' hrT hclT hl)
        have hdr : dn ++ ys ++ qs = bs := by rw [List.append_assoc]; exact hI.1
        have HDR := Lib.hid hdr
        have HRD := Lib.hid hrD
        have hend2 : k + 1 = n2 + 1 → qs = [] := fun h => by rw [← hqs]; exact hend (by omega)
        have HE2 := Lib.hid hend2
        have HCLD := Lib.hid hclD
        have hcnt := cuts_count (dn ++ ys)
        have hdl : (dn ++ ys).length ≤ bs.length := by rw [← hdr]; simp
        have HB := Lib.hid hI.2.2.2.2.2.2.2.2
        clear hys hqs hyq hI hrT hrD hdr hend hend2 hclD hclT hcrT hcrD
        rw [hmm]
        rw [hmm] at hcutT hcutD
        go_wp2_with fail
        refine HP.out.mono ?_
        rintro e w3 ⟨v, lv', SL', rfl, q1, q2, q3, q4, q5, q6, q7⟩
        rw [q6, List.length_append] at hcnt
        obtain ⟨A7, c7, us, rfl, hus, hur⟩ := q4.us
        obtain ⟨A5, c5, e5⟩ := q2.shape
        subst e5
        have hle := (cutRun_le (dn ++ ys) [] (by simp)).2
        obtain ⟨ll, hll⟩ : ∃ ll, ((cutRun [] (dn ++ ys)).2).length = ll := ⟨_, rfl⟩
        rw [hll] at q1 q2 hle
        have d9 : decide ((1024 : Int) < (ll : Int)) = false := by simp; omega
        have Q1 := Lib.hid q1
        have Q2 := Lib.hid q2
        have Q3 := Lib.hid q3
        have Q5 := Lib.hid q5
        have Q6 := Lib.hid q6
        have Q7 := Lib.hid q7
        have HUS := Lib.hid hus
        have HUR := Lib.hid hur
        have HLL := Lib.hid hll
        have hg3 := q1.lt
        have hs3 := q7.size
        clear q1 q2 q3 q4 q5 q6 q7 hus hur hll HP HI
        obtain ⟨xn, hxn⟩ : ∃ xn, (cutRun (cutRun [] dn).2 ys).1.length = xn := ⟨_, rfl⟩
        have HXN := Lib.hid hxn
        rw [hxn] at hcnt
        simp only [hxn]
        clear hxn
        go_wp2_with fail
        refine (left_any g _ A5 ll c5 false w3 Q1.out).mono ?_
        rintro e w3' ⟨rfl, rfl⟩
        go_wp2_with (at_builtin; refine wpList_append_rows _ rfl _ _ rfl (fun k => w.heap.size ≤ k ∧ k ≠ g ∧ ¬ SL' k) gv _ _ us rfl Q5.out HUS.out A7 c7 xn HXN.out.symm rfl HUR.out (by rw [HXN.out]; omega) ⟨by omega, by omega, fun h => by have := (Q3.out _ h).2.2; omega⟩ ?_; intro v4 w4 ho4 hg4 hat4; have HO4 := Lib.hid ho4; have HG4 := Lib.hid hg4; clear ho4 hg4 hat4)
        go_roundw
        case rel =>
          refine ⟨k + 1, dn ++ ys, qs, _, A3, c3, (.slice A5 ll c5), SL', rfl, rfl, by go_num, by omega, ?_⟩
          have hb := Q5.out.base
          have hB3 := Q7.out
          have hB4 := hB3.grown HG4.out hB3.size (fun j e => (hb j e).1.1)
          have hs4 := HG4.out.size
          refine ⟨HDR.out, HE2.out, HCLD.out, (HRD.out.rdS.keep (fun j hj hlt => ?_)).rdB_lt, Q1.out.grown HG4.out (fun e => (hb g e.symm).1.2.1 rfl), Q2.out.keep (fun j hj hlt => HG4.out.block j hlt (fun e => (hb j e.symm).1.2.2 hj)), fun j hj => ?_, ?_, hB4⟩
          · exact (hB4.block j hj).trans (HB.out.block j hj).symm
          · have := Q3.out j hj
            omega
          · rw [Q6.out]
            exact HO4.out
        case measure => simp [intOf]; omega
    · have hk1 : decide ((k : Int) ≤ (n2 : Int)) = false := by simp; omega
      have hrs := HI.out.2.1 (by omega)
      subst hrs
      obtain ⟨e1, _, _, _, h5, h6, h7, h8, h9⟩ := HI.out
      rw [List.append_nil] at e1
      subst e1
      obtain ⟨A5, c5, e5⟩ := h6.shape
      subst e5
      have H6 := Lib.hid h6
      have H7 := Lib.hid h7
      have H8 := Lib.hid h8
      have H9 := Lib.hid h9
      have H5 := Lib.hid h5
      clear h5 h6 h7 h8 h9 HI HC2
      obtain ⟨ll, hll⟩ : ∃ ll, (cutRun [] dn).2.length = ll := ⟨_, rfl⟩
      have HLL := Lib.hid hll
      rw [hll] at H5 H6
      clear hll
      go_wp2_with fail
      refine (end_any g _ _ wr H5.out).mono ?_
      rintro e w3 ⟨rfl, hc3, hT3⟩
      have hB3 := H9.out.grown hT3.1 H9.out.size (fun j e => by cases e; exact hg0)
      have ho3 : OwnL w3 (fun k => w.heap.size ≤ k ∧ k ≠ g) gv (cutRun [] dn).1 := (H8.out.keep (fun j hj hlt => hT3.1.block j hlt (by simp; exact hj.2.1))).mono (fun j hj _ => ⟨hj.1, hj.2.1⟩)
      have hl3 : OwnB w3 (fun k => w.heap.size ≤ k ∧ k ≠ g) (.slice A5 ll c5) (cutRun [] dn).2 := (H6.out.keep (fun j hj hlt => hT3.1.block j hlt (by simp; exact (H7.out j hj).2.1))).mono (fun j hj _ => ⟨(H7.out j hj).1, (H7.out j hj).2.1⟩)
      have hs3 : w3.heap.size = wr.heap.size := hT3.2
      have hgl := H5.out.lt
      have hcc := cuts_count dn
      have HS3 := Lib.hid hs3
      have HB3 := Lib.hid hB3
      have HO3 := Lib.hid ho3
      have HL3 := Lib.hid hl3
      clear hc3 hT3 hB3 ho3 hl3 H5 H6 H7 H8 hk1 hs3
      by_cases hle : (cutRun [] dn).2 = []
      · have hll0 : ll = 0 := by rw [← HLL.out, hle]; rfl
        have hsp : splitB dn = (cutRun [] dn).1 := by unfold splitB; rw [hle]; simp
        have HOF : Hid (OwnL w3 (fun k => w.heap.size ≤ k ∧ k ≠ g) gv (splitB dn)) := by rw [hsp]; exact HO3.out
        obtain ⟨wf, hwf⟩ : ∃ wf, w3 = wf := ⟨_, rfl⟩
        have HBF : Hid (Below w.heap.size w w3) := HB3
        subst hwf hll0
        clear hle hsp HLL HO3 HL3 HB3
        go_wp2_with fail
        have hsc := split_count dn
        obtain ⟨A8, c8, e8, hc8, hr8⟩ := HOF.out.rdl (fun l h => by have := split_len dn h; omega)
        subst e8
        have HR8 := Lib.hid hr8
        clear hr8
        refine (split_any (· < w3.heap.size) cap A dn w3 (HR.out.up HBF.out).rdS (by omega) hcap).mono ?_
        rintro e w6 ⟨v6, rfl, ho6, hB6⟩
        obtain ⟨A9, c9, rfl, hc9, hr9⟩ := ho6.rdl (fun l h => by have := split_len dn h; omega)
        have HR9 := Lib.hid hr9
        have HR8' := Lib.hid (HR8.out.below hB6)
        have HB6 := Lib.hid (HBF.out.trans (hB6.mono HBF.out.size))
        clear ho6 hB6 hr9 HR8
        go_wp2_with fail
        refine (sameLists_any c8 c9 A8 A9 (splitB dn) (splitB dn) w6 HR8'.out HR9.out (by omega) (by omega)).mono ?_
        rintro e w7 ⟨rfl, hB7⟩
        rw [decide_eq_true rfl]
        have HB7 := Lib.hid (HB6.out.trans (hB7.mono HB6.out.size))
        clear hB7
        go_wp2_with fail
        go_ret
        exact ⟨rfl, HB7.out⟩
      · have hll0 : 0 < ll := by rw [← HLL.out]; exact List.length_pos_iff.2 hle
        have hd0 : decide ((0 : Int) < (ll : Int)) = true := by simp; omega
        have hsp : splitB dn = (cutRun [] dn).1 ++ [(cutRun [] dn).2] := by unfold splitB; rw [if_neg hle]
        have HSP := Lib.hid hsp
        clear hle hsp
        go_wp2_with (at_builtin; refine wpList_append_rows (w3.alloc (.cells #[.slice A5 ll c5] 22)) rfl _ _ rfl (fun k => w.heap.size ≤ k ∧ k ≠ g) gv _ [(cutRun [] dn).2] [.slice A5 ll c5] rfl (HO3.out.turn none (World.grownBy_alloc w3 _ none) (fun k e => by cases e) (fun k e => by cases e)) (Rows.one (HL3.out.turn none (World.grownBy_alloc w3 _ none) (fun k e => by cases e))) (some ⟨w3.heap.size, 0, none⟩) 1 1 rfl rfl (fun _ => ⟨_, rfl, new_cell w3 _ 22⟩) (by simp; omega) (by have := HB3.out.size; have := HS3.out; simp; omega) ?_; intro v4 wf ho4 hg4 hat4; have HBF := Lib.hid ((HB3.out.alloc HB3.out.size (.cells #[.slice A5 ll c5] 22)).grown hg4 (by have := HB3.out.size; simp; omega) (fun j e => (HO3.out.base j e).1.1)); rw [← HSP.out] at ho4; have HOF := Lib.hid ho4; clear ho4 hg4 hat4)
        have hsc := split_count dn
        obtain ⟨A8, c8, e8, hc8, hr8⟩ := HOF.out.rdl (fun l h => by have := split_len dn h; omega)
        subst e8
        have HR8 := Lib.hid hr8
        clear hr8
        refine (split_any (· < wf.heap.size) cap A dn wf (HR.out.up HBF.out).rdS (by omega) hcap).mono ?_
        rintro e w6 ⟨v6, rfl, ho6, hB6⟩
        obtain ⟨A9, c9, rfl, hc9, hr9⟩ := ho6.rdl (fun l h => by have := split_len dn h; omega)
        have HR9 := Lib.hid hr9
        have HR8' := Lib.hid (HR8.out.below hB6)
        have HB6 := Lib.hid (HBF.out.trans (hB6.mono HBF.out.size))
        clear ho6 hB6 hr9 HR8
        go_wp2_with fail
        refine (sameLists_any c8 c9 A8 A9 (splitB dn) (splitB dn) w6 HR8'.out HR9.out (by omega) (by omega)).mono ?_
        rintro e w7 ⟨rfl, hB7⟩
        rw [decide_eq_true rfl]
        have HB7 := Lib.hid (HB6.out.trans (hB7.mono HB6.out.size))
        clear hB7
        go_wp2_with fail
        go_ret
        exact ⟨rfl, HB7.out⟩

set_option maxHeartbeats 800000 in
theorem ChunkPieces_walk (a0 : Option Addr) (len0 cap0 : Nat) (z0 : List Int) (a1 : Option Addr) (len1 cap1 : Nat) (z1 : List Int) (w : World) (w0 : IsRow .u8 w a0 len0 cap0 z0) (w1 : IsRow .i64 w a1 len1 cap1 z1) :
    Calls Try.prog 16 #[.slice a0 len0 cap0, .slice a1 len1 cap1] w fun e w' => e = .returned (.bool true) ∧ Below w.heap.size w w' := by
  by_cases hn : len0 ≤ 8000
  · by_cases hm : len1 ≤ 100
    · obtain ⟨xs, rfl, hc, hr⟩ := w0.rd (by omega)
      exact pieces_walk _ _ _ _ _ _ _ _ hc hr (by omega) w1 hm
    · have hd0 : decide ((8000 : Int) < (len0 : Int)) = false := by simp; omega
      have hd : decide ((100 : Int) < (len1 : Int)) = true := by simp; omega
      have hl := w0.len
      have hl1 := w1.len
      clear w0 w1
      go_enter Try.func16, Try.ntmps16
      go_wp2_with fail
      refine (awake6_any w).mono ?_
      rintro e w1 ⟨rfl, hB1⟩
      go_wp2_with fail
      go_ret
      exact ⟨rfl, hB1⟩
  · have hd : decide ((8000 : Int) < (len0 : Int)) = true := by simp; omega
    have hl := w0.len
    clear w0 w1
    go_enter Try.func16, Try.ntmps16
    go_wp2_with fail
    refine (awake6_any w).mono ?_
    rintro e w1 ⟨rfl, hB1⟩
    go_wp2_with fail
    go_ret
    exact ⟨rfl, hB1⟩
end Go.Proofs.Ytneieogpdjlnbaa
