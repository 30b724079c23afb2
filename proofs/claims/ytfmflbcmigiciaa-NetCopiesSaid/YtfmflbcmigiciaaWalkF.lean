/- Chapter 05: what answers that there is none: Deliver, Drop, Double, Copy. -/
import Derived.Test.YtfmflbcmigiciaaWalkE
namespace Go.Proofs.Ytfmflbcmigiciaa
open Go.RowKit

/-- At answers that there is none, in every later world. -/
def NoAt (p : Value) (i : Int) (w : World) : Prop := ∀ W', Below w.heap.size w W' → Calls Try.prog 16 #[p, .int .i64 i] W' fun e w' => e = .returned (.tuple #[msg0, .int .i64 4]) ∧ Below W'.heap.size W' w'
theorem noAt_nil (i : Int) (w : World) : NoAt (.pointer none) i w := fun W' _ => at_nil i W'
theorem noAt_net {G n c : Nat} {A : Option Addr} {most N i : Int} {cut : Nat → Nat → Bool} {w : World} (h : Blk w G 56 (netA (.slice A n c) most N cut)) (hi : hasB n i = false) : NoAt (.pointer (some ⟨G, 0, none⟩)) i w := fun W' hb => at_no G n c A most N i cut W' (h.below hb h.lt) hi

theorem double_none (p : Value) (i : Int) (w : World) (h : NoAt p i w) : Calls Try.prog 17 #[p, .int .i64 i] w fun e w' => e = .returned (.int .i64 4) ∧ Below w.heap.size w w' := by
  have C := Lib.hid (h w (Below.refl _ _))
  clear h
  go_enter Try.func17, Try.ntmps17
  go_wp2_with fail
  refine C.out.mono ?_
  rintro e w1 ⟨rfl, hb1⟩
  have HB := Lib.hid hb1
  unfold msg0
  clear hb1 C
  go_wp2_with fail
  go_quiet (fail)
  go_wp2_with fail
  go_ret
  exact ⟨rfl, below_drewN (HB.out.alloc HB.out.size _) _⟩

theorem deliver_none (p : Value) (i : Int) (w : World) (h : NoAt p i w) : Calls Try.prog 12 #[p, .int .i64 i] w fun e w' => e = .returned (.tuple #[msg0, .int .i64 4]) ∧ Below w.heap.size w w' := by
  obtain ⟨W0, hW0⟩ : ∃ W0, W0 = w.alloc (.cells #[.int .i64 0, .int .i64 0, .slice none 0 0] 33) := ⟨_, rfl⟩
  have hb0 : Below w.heap.size w W0 := by rw [hW0]; exact (Below.refl _ _).alloc (Nat.le_refl _) _
  have hR : Blk W0 w.heap.size 33 #[.int .i64 0, .int .i64 0, .slice none 0 0] := by rw [hW0]; exact Blk.new _ _ _
  have C := Lib.hid (h W0 hb0)
  have HR := Lib.hid hR
  have rl := hR.lt
  clear h hR
  go_enter Try.func12, Try.ntmps12
  go_wp2_with fail
  rw [← hW0]
  clear hW0
  refine C.out.mono ?_
  rintro e w1 ⟨rfl, hb1⟩
  have hR1 := HR.out.below hb1 rl
  obtain ⟨r0, r1, r2⟩ := blk_cell3 hR1
  have rf := hR1.frozen
  have rl1 := hR1.lt
  have hb01 := hb0.trans (hb1.mono hb0.size)
  unfold msg0
  clear hb1 C hR1
  go_wp2_with fail
  refine bodyPost_ret (v := .tuple #[msg0, .int .i64 4]) (by simp [results, Try.results12, go_sem, msg0, r0, r1, r2, rl1]) rfl ⟨rfl, ?_⟩
  exact (((hb01.setCell (p := ⟨w.heap.size, 0, none⟩) (Nat.le_refl _) _).setCell (p := ⟨w.heap.size, 1, none⟩) (Nat.le_refl _) _).setCell (p := ⟨w.heap.size, 2, none⟩) (Nat.le_refl _) _).alloc (by simp only [size_setCell]; exact hb01.size) _

theorem drop_nil (i : Int) (w : World) : Calls Try.prog 15 #[.pointer none, .int .i64 i] w fun e w' => e = .returned (.int .i64 4) ∧ w = w' := by
  go_enter Try.func15, Try.ntmps15
  go_wp2_with fail
  go_ret
  exact ⟨rfl, rfl⟩
theorem drop_no (G n c : Nat) (A : Option Addr) (most N i : Int) (cut : Nat → Nat → Bool) (w : World) (h : Blk w G 56 (netA (.slice A n c) most N cut)) (hi : hasB n i = false) : Calls Try.prog 15 #[.pointer (some ⟨G, 0, none⟩), .int .i64 i] w fun e w' => e = .returned (.int .i64 4) ∧ w = w' := by
  have C := Lib.hid (has_any G n c A most N i cut w h)
  rw [hi] at C
  have gl := h.lt
  clear h hi
  go_enter Try.func15, Try.ntmps15
  go_wp2_with fail
  refine C.out.mono ?_
  rintro e w1 ⟨rfl, rfl⟩
  go_wp2_with fail
  go_ret
  exact ⟨rfl, rfl⟩
theorem copy_none (p : Value) (w : World) (h : NN w p 0) : Calls Try.prog 21 #[p] w fun e w' => e = .returned (.pointer none) ∧ Below w.heap.size w w' := by
  have C := Lib.hid (nodes_any p 0 w h)
  clear h
  go_enter Try.func21, Try.ntmps21
  go_wp2_with fail
  refine C.out.mono ?_
  rintro e w1 ⟨rfl, rfl⟩
  go_wp2_with fail
  go_ret
  exact ⟨rfl, Below.refl _ _⟩
end Go.Proofs.Ytfmflbcmigiciaa
