/- The walks of package chunk's Cutter: New, out, End, Left. Conditions: those that each statement names. -/
import Derived.Test.YtneieogpdjlnbaaCutA
set_option linter.unusedVariables false
set_option linter.unusedSimpArgs false
namespace Go.Proofs.Ytneieogpdjlnbaa
open Go Go.RowKit Go.Proofs.YtneieogpdjlnbaaW.PrintWords

/-- A cutter in block g: its edge, that the bytes h came to, what is left, whether it is over. -/
def CutAt (w : World) (g : Nat) (h : List Int) (lv : Value) (ov : Bool) : Prop := ∃ t : Nat, EdgeAt w g t h [lv, .bool true, .bool ov]
section
variable {w w' : World} {g : Nat} {h : List Int} {lv : Value} {ov : Bool}
theorem CutAt.c20 (hc : CutAt w g h lv ov) : w.cell? ⟨g, 20, none⟩ = some lv := by obtain ⟨t, hc⟩ := hc; exact Rol.nth hc 1
theorem CutAt.c21 (hc : CutAt w g h lv ov) : w.cell? ⟨g, 21, none⟩ = some (.bool true) := by obtain ⟨t, hc⟩ := hc; exact Rol.nth hc 2
theorem CutAt.c22 (hc : CutAt w g h lv ov) : w.cell? ⟨g, 22, none⟩ = some (.bool ov) := by obtain ⟨t, hc⟩ := hc; exact Rol.nth hc 3
theorem CutAt.c23 (hc : CutAt w g h lv ov) : w.cell? ⟨g, 23, none⟩ = none := by obtain ⟨t, hc⟩ := hc; exact Rol.nth hc 4
theorem CutAt.frozen (hc : CutAt w g h lv ov) (j : Nat) : w.frozen? ⟨g, j, none⟩ = false := by obtain ⟨t, hc⟩ := hc; exact Rol.frozen hc j
theorem CutAt.set20 (hc : CutAt w g h lv ov) (u : Value) : CutAt (w.setCell ⟨g, 20, none⟩ u) g h u ov := by obtain ⟨t, hc⟩ := hc; exact ⟨t, Rol.set_ hc 1 u⟩
theorem CutAt.set22 (hc : CutAt w g h lv ov) (b : Bool) : CutAt (w.setCell ⟨g, 22, none⟩ (.bool b)) g h lv b := by obtain ⟨t, hc⟩ := hc; exact ⟨t, Rol.set_ hc 3 (.bool b)⟩
theorem CutAt.below {B : Nat} (hc : CutAt w g h lv ov) (hb : Below B w w') (hg : g < B) : CutAt w' g h lv ov := by obtain ⟨t, hc⟩ := hc; exact ⟨t, Rol.below hc hb hg⟩
theorem CutAt.grown {row : Option Nat} (hc : CutAt w g h lv ov) (hb : w.grownBy w' row) (hg : some g ≠ row) : CutAt w' g h lv ov := by obtain ⟨t, hc⟩ := hc; exact ⟨t, Rol.grown hc hb hg⟩
theorem CutAt.same (hc : CutAt w g h lv ov) (hb : w'.heap[g]? = w.heap[g]?) : CutAt w' g h lv ov := by
  obtain ⟨t, h1, ring, n, s, hs, hb'⟩ := hc
  exact ⟨t, h1, ring, n, s, hs, hb.trans hb'⟩
theorem CutAt.lt (hc : CutAt w g h lv ov) : g < w.heap.size := by obtain ⟨t, hc⟩ := hc; exact Rol.lt hc
theorem CutAt.edge (hc : CutAt w g h lv ov) : EdgeX w g h := by obtain ⟨t, hc⟩ := hc; exact ⟨t, _, hc⟩
end

set_option maxRecDepth 100000 in
set_option maxHeartbeats 800000 in
theorem new_any (w : World) : Calls Try.prog 30 #[] w fun e w' => ∃ g, e = .returned (.pointer (some ⟨g, 0, none⟩)) ∧ w.heap.size ≤ g ∧ CutAt w' g [] (.slice none 0 0) false ∧ Below w.heap.size w w' := by
  go_enter Try.func30, Try.ntmps30
  go_wp2_with fail
  refine (fresh_any w).mono ?_
  rintro e w1 ⟨rfl, hB1⟩
  have HB := Lib.hid hB1
  clear hB1
  go_wp2_with fail
  go_ret
  refine ⟨w1.heap.size, rfl, HB.out.size, ?_, HB.out.alloc HB.out.size _⟩
  refine ⟨70, fun x hx => by simp at hx, _, 0, 0, RS_nil, ?_⟩
  exact Blk.new w1 70 _

set_option maxHeartbeats 400000 in
theorem out_any (g : Nat) (h : List Int) (lv : Value) (ov : Bool) (w : World) (hc : CutAt w g h lv ov) :
    Calls Try.prog 53 #[.pointer (some ⟨g, 0, none⟩)] w fun e w' => e = .returned (.int .i64 (if ov then 9 else 0)) ∧ w = w' := by
  have c21 := hc.c21
  have c22 := hc.c22
  clear hc
  cases ov with
  | true =>
    go_enter Try.func53, Try.ntmps53
    go_wp2_with fail
    go_ret
    exact ⟨rfl, rfl⟩
  | false =>
    go_enter Try.func53, Try.ntmps53
    go_wp2_with fail
    go_ret
    exact ⟨rfl, rfl⟩
set_option maxHeartbeats 400000 in
theorem out_nil (w : World) : Calls Try.prog 53 #[.pointer none] w fun e w' => e = .returned (.int .i64 1) ∧ w = w' := by
  go_enter Try.func53, Try.ntmps53
  go_wp2_with fail
  go_ret
  exact ⟨rfl, rfl⟩
set_option maxHeartbeats 400000 in
theorem out_unmade (g : Nat) (w : World) (c21 : w.cell? ⟨g, 21, none⟩ = some (.bool false)) : Calls Try.prog 53 #[.pointer (some ⟨g, 0, none⟩)] w fun e w' => e = .returned (.int .i64 1) ∧ w = w' := by
  go_enter Try.func53, Try.ntmps53
  go_wp2_with fail
  go_ret
  exact ⟨rfl, rfl⟩

set_option maxHeartbeats 400000 in
theorem left_any (g : Nat) (h : List Int) (A : Option Addr) (n c : Nat) (ov : Bool) (w : World) (hc : CutAt w g h (.slice A n c) ov) :
    Calls Try.prog 35 #[.pointer (some ⟨g, 0, none⟩)] w fun e w' => e = .returned (.int .i64 n) ∧ w = w' := by
  have c20 := hc.c20
  clear hc
  go_enter Try.func35, Try.ntmps35
  go_wp2_with fail
  go_ret
  exact ⟨rfl, rfl⟩
set_option maxHeartbeats 400000 in
theorem left_nil (w : World) : Calls Try.prog 35 #[.pointer none] w fun e w' => e = .returned (.int .i64 0) ∧ w = w' := by
  go_enter Try.func35, Try.ntmps35
  go_wp2_with fail
  go_ret
  exact ⟨rfl, rfl⟩
set_option maxHeartbeats 400000 in
theorem left_unmade (g : Nat) (w : World) (c20 : w.cell? ⟨g, 20, none⟩ = some (.slice none 0 0)) : Calls Try.prog 35 #[.pointer (some ⟨g, 0, none⟩)] w fun e w' => e = .returned (.int .i64 0) ∧ w = w' := by
  go_enter Try.func35, Try.ntmps35
  go_wp2_with fail
  go_ret
  exact ⟨rfl, rfl⟩

set_option maxHeartbeats 800000 in
theorem end_any (g : Nat) (h : List Int) (lv : Value) (w : World) (hc : CutAt w g h lv false) :
    Calls Try.prog 31 #[.pointer (some ⟨g, 0, none⟩)] w fun e w' => e = .returned (.tuple #[lv, .int .i64 0]) ∧ CutAt w' g h (.slice none 0 0) true ∧ Turned w w' g := by
  have HC := Lib.hid hc
  have c20 := hc.c20
  have f20 := hc.frozen 20
  have f22 := hc.frozen 22
  have c22 := hc.c22
  have hc2 := hc.set20 (.slice none 0 0)
  have c22' := hc2.c22
  have f22' := hc2.frozen 22
  have hc3 := hc2.set22 true
  have HT : Hid (Turned w ((w.setCell ⟨g, 20, none⟩ (.slice none 0 0)).setCell ⟨g, 22, none⟩ (.bool true)) g) := (Turned.setCell w g 20 _).trans (Turned.setCell _ g 22 _)
  have HC3 := Lib.hid hc3
  clear hc hc2 hc3
  have ho : Calls Try.prog 53 #[.pointer (some ⟨g, 0, none⟩)] w fun e w' => e = .returned (.int .i64 0) ∧ w = w' := by have := out_any g h lv false w HC.out; simpa using this
  have HO := Lib.hid ho
  clear ho
  go_enter Try.func31, Try.ntmps31
  go_wp2_with (go_at_call 53; refine HO.out.mono ?_; rintro e w1 ⟨rfl, rfl⟩)
  refine bodyPost_ret (results_list (rs := [.tmp 2, .tmp 3]) rfl (by simp) (.tmp (.tmp .nil))) rfl ?_
  exact ⟨rfl, HC3.out, HT.out⟩
set_option maxHeartbeats 400000 in
theorem end_err (p : Value) (k : Int) (w : World) (hk : k = 1 ∨ k = 9) (ho : Calls Try.prog 53 #[p] w fun e w' => e = .returned (.int .i64 k) ∧ w = w') :
    Calls Try.prog 31 #[p] w fun e w' => e = .returned (.tuple #[.slice none 0 0, .int .i64 k]) ∧ w = w' := by
  have HO := Lib.hid ho
  clear ho
  rcases hk with rfl | rfl
  · go_enter Try.func31, Try.ntmps31
    go_wp2_with (go_at_call 53; refine HO.out.mono ?_; rintro e w1 ⟨rfl, rfl⟩)
    refine bodyPost_ret (results_list (rs := [.tmp 2, .tmp 3]) rfl (by simp) (.tmp (.tmp .nil))) rfl ⟨rfl, rfl⟩
  · go_enter Try.func31, Try.ntmps31
    go_wp2_with (go_at_call 53; refine HO.out.mono ?_; rintro e w1 ⟨rfl, rfl⟩)
    refine bodyPost_ret (results_list (rs := [.tmp 2, .tmp 3]) rfl (by simp) (.tmp (.tmp .nil))) rfl ⟨rfl, rfl⟩
end Go.Proofs.Ytneieogpdjlnbaa
