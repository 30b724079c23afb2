/- Chapter 05: Find at nil; the iterator handed out. -/
import Derived.Test.YtfmflbcmigiciaaWalkF
namespace Go.Proofs.Ytfmflbcmigiciaa
open Go.RowKit

theorem find_nil (a b : Int) (w : World) : Calls Try.prog 24 #[.pointer none, .int .i64 a, .int .i64 b] w fun e w' => e = .returned (.tuple #[.int .i64 0, .bool false]) ∧ Below w.heap.size w w' := by
  go_enter Try.func24, Try.ntmps24
  go_wp2_with fail
  refine bodyPost_ret (v := .tuple #[.int .i64 0, .bool false]) (by simp [results, Try.results24, go_sem]) rfl ⟨rfl, ?_⟩
  exact (((((Below.refl _ _).alloc (Nat.le_refl _) _).alloc (by simp) _).alloc (by simp; omega) _).alloc (by simp; omega) _)

/-- The iterator over a bag from a number on: the function with its two cells. -/
theorem from_any (q : Option Addr) (i : Int) (w : World) : Calls Try.prog 35 #[.pointer q, .int .i64 i] w fun e w' => e = .returned (.func (.func 47) #[] #[.pointer (some ⟨w.heap.size + 1, 0, none⟩), .pointer (some ⟨w.heap.size, 0, none⟩)]) ∧ w' = (w.alloc (.cells #[.pointer q] 76)).alloc (.cells #[.int .i64 i] 3) := by
  go_enter Try.func35, Try.ntmps35
  go_wp2_with fail
  go_ret
  exact ⟨rfl, rfl⟩
end Go.Proofs.Ytfmflbcmigiciaa
