/- The walk of layer 6's law ChunkNone: it returns true and writes nothing that was there. Conditions: none beyond how the arguments lie in memory. -/
import Derived.Test.YtneieogpdjlnbaaLawsG
set_option linter.unusedVariables false
set_option linter.unusedSimpArgs false
namespace Go.Proofs.Ytneieogpdjlnbaa
open Go Go.RowKit Go.Proofs.YtneieogpdjlnbaaW.PrintWords

set_option maxRecDepth 100000 in
set_option maxHeartbeats 1600000 in
theorem cnone_walk (A : Option Addr) (n cap : Nat) (w : World) : Calls Try.prog 15 #[.slice A n cap] w fun e w' => e = .returned (.bool true) ∧ Below w.heap.size w w' := by
  by_cases hn : n ≤ 3000
  · have hd : decide ((3000 : Int) < (n : Int)) = false := by simp; omega
    go_enter Try.func15, Try.ntmps15
    go_wp2_with fail
    clear hd
    generalize hw2 : World.alloc (World.alloc w _) _ = w2
    have hz2 : w2.heap.size = w.heap.size + 2 := by rw [← hw2]; simp
    have c20 : w2.cell? ⟨w.heap.size, 20, none⟩ = some (.slice none 0 0) := by rw [← hw2]; exact (((Blk.new w 70 _).alloc _).cell 20).trans rfl
    have c21 : w2.cell? ⟨w.heap.size, 21, none⟩ = some (.bool false) := by rw [← hw2]; exact (((Blk.new w 70 _).alloc _).cell 21).trans rfl
    have d0 : w2.cell? ⟨w.heap.size + 1, 0, none⟩ = some (.pointer none) := by
      rw [← hw2]
      have := (Blk.new (w.alloc (.cells #[.int .u8 0, .int .u8 0, .int .u8 0, .int .u8 0, .int .u8 0, .int .u8 0, .int .u8 0, .int .u8 0, .int .u8 0, .int .u8 0, .int .u8 0, .int .u8 0, .int .u8 0, .int .u8 0, .int .u8 0, .int .u8 0, .int .i64 0, .int .u32 0, .bool false, .int .i64 0, .slice none 0 0, .bool false, .bool false] 70)) 34 #[.pointer none, .pointer (some ⟨w.heap.size, 0, none⟩)]).cell 0
      rw [World.size_alloc] at this
      exact this.trans rfl
    have d1 : w2.cell? ⟨w.heap.size + 1, 1, none⟩ = some (.pointer (some ⟨w.heap.size, 0, none⟩)) := by
      rw [← hw2]
      have := (Blk.new (w.alloc (.cells #[.int .u8 0, .int .u8 0, .int .u8 0, .int .u8 0, .int .u8 0, .int .u8 0, .int .u8 0, .int .u8 0, .int .u8 0, .int .u8 0, .int .u8 0, .int .u8 0, .int .u8 0, .int .u8 0, .int .u8 0, .int .u8 0, .int .i64 0, .int .u32 0, .bool false, .int .i64 0, .slice none 0 0, .bool false, .bool false] 70)) 34 #[.pointer none, .pointer (some ⟨w.heap.size, 0, none⟩)]).cell 1
      rw [World.size_alloc] at this
      exact this.trans rfl
    have hB2 : Below w.heap.size w w2 := by rw [← hw2]; exact ((Below.refl _ _).alloc (Nat.le_refl _) _).alloc (by simp) _
    have C20 := Lib.hid c20
    have C21 := Lib.hid c21
    have D0 := Lib.hid d0
    have D1 := Lib.hid d1
    have HB2 := Lib.hid hB2
    clear c20 c21 d0 d1 hB2 hw2
    go_loopw [4] (fun i wr => ∃ k : Nat, k ≤ 2 ∧ i = .int .i64 k ∧ Hid (Below w2.heap.size w2 wr)) (fun i _ => 2 - (intOf i).toNat)
    case atStart => exact ⟨0, by omega, rfl, Below.refl _ _⟩
    case round =>
      obtain ⟨k, hk, rfl, HB⟩ := hrel
      have hszr := HB.out.size
      rcases (show k = 0 ∨ k = 1 ∨ k = 2 by omega) with rfl | rfl | rfl
      · have e0 := pw_cell_below HB.out D0.out
        go_wp2_with fail
        refine (push_err none 1 _ _ _ wr (.inl rfl) (fun W hW => out_nil W)).mono ?_
        rintro e w3 ⟨rfl, hB3⟩
        have e0' := pw_cell_below hB3 e0
        have HB3 := Lib.hid (HB.out.trans (hB3.mono hszr))
        clear hB3 e0
        go_wp2_with fail
        refine (end_err (.pointer none) 1 w3 (.inl rfl) (out_nil w3)).mono ?_
        rintro e w3' ⟨rfl, rfl⟩
        go_wp2_with fail
        refine (left_nil w3).mono ?_
        rintro e w3' ⟨rfl, rfl⟩
        go_wp2_with fail
        go_roundw
        case rel => exact ⟨1, by omega, rfl, HB3.out⟩
        case measure => simp [intOf]
      · have e1 := pw_cell_below HB.out D1.out
        have e20 := pw_cell_below HB.out C20.out
        have e21 := pw_cell_below HB.out C21.out
        have E21 := Lib.hid e21
        have E20 := Lib.hid e20
        clear e20 e21
        go_wp2_with fail
        refine (push_err (some ⟨w.heap.size, 0, none⟩) 1 _ _ _ wr (.inl rfl) (fun W hW => out_unmade _ W (pw_cell_below hW E21.out))).mono ?_
        rintro e w3 ⟨rfl, hB3⟩
        have e1' := pw_cell_below hB3 e1
        have F21 := Lib.hid (pw_cell_below hB3 E21.out)
        have F20 := Lib.hid (pw_cell_below hB3 E20.out)
        have HB3 := Lib.hid (HB.out.trans (hB3.mono hszr))
        clear hB3 e1
        go_wp2_with fail
        refine (end_err (.pointer (some ⟨w.heap.size, 0, none⟩)) 1 w3 (.inl rfl) (out_unmade _ w3 F21.out)).mono ?_
        rintro e w3' ⟨rfl, rfl⟩
        go_wp2_with fail
        refine (left_unmade _ w3 F20.out).mono ?_
        rintro e w3' ⟨rfl, rfl⟩
        go_wp2_with fail
        go_roundw
        case rel => exact ⟨2, by omega, rfl, HB3.out⟩
        case measure => simp [intOf]
      · go_wp2_with fail
        refine (awake6_any wr).mono ?_
        rintro e w3 ⟨rfl, hB3⟩
        go_wp2_with fail
        go_ret
        exact ⟨rfl, HB2.out.trans ((HB.out.trans (hB3.mono hszr)).mono (by omega))⟩
  · have hd : decide ((3000 : Int) < (n : Int)) = true := by simp; omega
    go_enter Try.func15, Try.ntmps15
    go_wp2_with fail
    refine (awake6_any w).mono ?_
    rintro e w1 ⟨rfl, hB⟩
    go_wp2_with fail
    go_ret
    exact ⟨rfl, hB⟩
theorem ChunkNone_walk (a0 : Option Addr) (len0 cap0 : Nat) (z0 : List Int) (w : World) (w0 : IsRow .u8 w a0 len0 cap0 z0) :
    Calls Try.prog 15 #[.slice a0 len0 cap0] w fun e w' => e = .returned (.bool true) ∧ Below w.heap.size w w' := cnone_walk a0 len0 cap0 w
end Go.Proofs.Ytneieogpdjlnbaa
