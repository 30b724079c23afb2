/- Chapter 05, plain: nets in memory. -/
import Derived.Test.YtfmflbcmigiciaaRf
import Derived.Test.YtfmflbcmigiciaaProg
namespace Go.Proofs.Ytfmflbcmigiciaa
open Go.RowKit

/-- What a pointer to a net says of its nodes: nil, or a net's own cell. -/
def NN (w : World) (p : Value) (N : Int) : Prop := (p = .pointer none ∧ N = 0) ∨ ∃ G, p = .pointer (some ⟨G, 0, none⟩) ∧ G < w.heap.size ∧ w.cell? ⟨G, 2, none⟩ = some (.int .i64 N)

def twoB (N a b : Int) : Bool := decide (1 ≤ a ∧ a ≤ N ∧ 1 ≤ b ∧ b ≤ N ∧ a ≠ b)

theorem nodes_any (p : Value) (N : Int) (w : World) (h : NN w p N) : Calls Try.prog 25 #[p] w fun e w' => e = .returned (.int .i64 N) ∧ w = w' := by
  rcases h with ⟨rfl, rfl⟩ | ⟨G, rfl, hG, h2⟩
  · go_enter Try.func25, Try.ntmps25
    go_wp2_with fail
    go_ret
    exact ⟨rfl, rfl⟩
  · go_enter Try.func25, Try.ntmps25
    go_wp2_with fail
    go_ret
    exact ⟨rfl, rfl⟩

set_option maxHeartbeats 1000000 in
theorem two_any (p : Value) (N a b : Int) (w : World) (h : NN w p N) : Calls Try.prog 27 #[p, .int .i64 a, .int .i64 b] w fun e w' => e = .returned (.bool (twoB N a b)) ∧ w = w' := by
  have C := Lib.hid (nodes_any p N w h)
  clear h
  by_cases h1 : 1 ≤ a <;> by_cases h2 : a ≤ N <;> by_cases h3 : 1 ≤ b <;> by_cases h4 : b ≤ N <;> by_cases h5 : a = b
  all_goals first
    | (exfalso; omega)
    | (go_enter Try.func27, Try.ntmps27
       go_wp2_with fail
       refine C.out.mono ?_
       rintro e w1 ⟨rfl, rfl⟩
       go_wp2_with fail
       go_ret
       exact ⟨ret_bool (by first | exact (decide_eq_true (by omega)).symm | exact (decide_eq_false (by omega)).symm | (rw [show twoB N a b = true from decide_eq_true (by omega)]; simpa using h5) | (rw [show twoB N a b = false from decide_eq_false (by omega)]; simpa using h5)), rfl⟩)

/-- Cells of a net's own block: how many nodes, which links are cut. -/
structure Cut (w : World) (G : Nat) (cut : Nat → Nat → Bool) : Prop where
  lt : G < w.heap.size
  cell : ∀ a b, a < 16 → b < 16 → w.cell? ⟨G, 3 + a * 16 + b, none⟩ = some (.bool (cut a b))

def openB (N : Int) (cut : Nat → Nat → Bool) (a b : Int) : Bool := twoB N a b && !cut a.toNat b.toNat

set_option maxHeartbeats 1000000 in
theorem open_no (p : Value) (N a b : Int) (w : World) (h : NN w p N) (h2 : twoB N a b = false) : Calls Try.prog 26 #[p, .int .i64 a, .int .i64 b] w fun e w' => e = .returned (.bool false) ∧ w = w' := by
  have C := Lib.hid (two_any p N a b w h)
  rw [h2] at C
  clear h h2
  go_enter Try.func26, Try.ntmps26
  go_wp2_with fail
  refine C.out.mono ?_
  rintro e w1 ⟨rfl, rfl⟩
  go_wp2_with fail
  go_ret
  exact ⟨rfl, rfl⟩
set_option maxHeartbeats 1000000 in
theorem open_yes (G : Nat) (N : Int) (a b : Nat) (cut : Nat → Nat → Bool) (w : World) (h : NN w (.pointer (some ⟨G, 0, none⟩)) N) (h2 : twoB N a b = true) (hN : N ≤ 15) (hc : Cut w G cut) : Calls Try.prog 26 #[.pointer (some ⟨G, 0, none⟩), .int .i64 a, .int .i64 b] w fun e w' => e = .returned (.bool (!cut a b)) ∧ w = w' := by
  have C := Lib.hid (two_any _ N a b w h)
  rw [h2] at C
  have h3 : 1 ≤ (a : Int) ∧ (a : Int) ≤ N ∧ 1 ≤ (b : Int) ∧ (b : Int) ≤ N ∧ (a : Int) ≠ b := of_decide_eq_true h2
  obtain ⟨ha1, ha2, hb1, hb2, hab⟩ := h3
  have ha : a < 16 := by omega
  have hb : b < 16 := by omega
  have hcl := hc.cell a b ha hb
  have hlt := hc.lt
  have HC := Lib.hid hc
  clear h h2 hc
  go_enter Try.func26, Try.ntmps26
  go_wp2_with fail
  refine C.out.mono ?_
  rintro e w1 ⟨rfl, rfl⟩
  go_wp2_with fail
  go_ret
  exact ⟨rfl, rfl⟩
end Go.Proofs.Ytfmflbcmigiciaa
