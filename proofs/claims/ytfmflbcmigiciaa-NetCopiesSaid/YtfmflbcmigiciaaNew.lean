/- Chapter 05: a new net, and none. -/
import Derived.Test.YtfmflbcmigiciaaPlain
namespace Go.Proofs.Ytfmflbcmigiciaa
open Go.RowKit

def netZ : Array Value := #[.slice none 0 0, .int .i64 0, .int .i64 0] ++ Array.replicate 256 (.bool false)
theorem netZ_size : netZ.size = 259 := by simp [netZ]
theorem zero56t : Try.t56.zero = some (.agg netZ) := by kernel_rfl
theorem zero56 (w : World) : Sem.run Try.prog (zeroValue 56) w = .ok (.agg netZ) w := by
  simp [zeroValue, go_sem, zero56t]

def netC (N : Int) : Array Value := ((netZ.setIfInBounds 0 (.slice none 0 0)).setIfInBounds 1 (.int .i64 64)).setIfInBounds 2 (.int .i64 N)
theorem netC_get (N : Int) (i : Nat) : (netC N)[i]? = if i = 0 then some (.slice none 0 0) else if i = 1 then some (.int .i64 64) else if i = 2 then some (.int .i64 N) else if i < 259 then some (.bool false) else none := by
  unfold netC
  have hs := netZ_size
  simp only [Array.getElem?_setIfInBounds, Array.size_setIfInBounds, hs]
  match i with
  | 0 => simp
  | 1 => simp
  | 2 => simp
  | i + 3 =>
    simp only [show ¬ 2 = i + 3 by omega, show ¬ 1 = i + 3 by omega, show ¬ 0 = i + 3 by omega, if_false, show ¬ i + 3 = 0 by omega, show ¬ i + 3 = 1 by omega, show ¬ i + 3 = 2 by omega]
    unfold netZ
    rw [Array.getElem?_append_right (by simp)]
    by_cases h : i + 3 < 259
    · rw [if_pos h, Array.getElem?_replicate, if_pos (by simp; omega)]
    · rw [if_neg h, Array.getElem?_replicate, if_neg (by simp; omega)]

set_option maxRecDepth 100000 in
set_option maxHeartbeats 2000000 in
theorem new_yes (N : Int) (w : World) (h1 : 1 ≤ N) (h2 : N ≤ 15) : Calls Try.prog 9 #[.int .i64 N] w fun e w' => e = .returned (.tuple #[.pointer (some ⟨w.heap.size, 0, none⟩), .int .i64 0]) ∧ w' = w.alloc (.cells (netC N) 56) := by
  have hz := zero56
  have hs := netZ_size
  unfold netC
  generalize netZ = Z at hz hs ⊢
  go_enter Try.func9, Try.ntmps9
  go_wp2_with fail
  exact bodyPost_ret (v := .tuple #[.pointer (some ⟨w.heap.size, 0, none⟩), .int .i64 0]) (by simp [results, Try.results9, go_sem]) rfl ⟨rfl, rfl⟩
set_option maxRecDepth 100000 in
theorem new_no (N : Int) (w : World) (h : ¬ (1 ≤ N ∧ N ≤ 15)) : Calls Try.prog 9 #[.int .i64 N] w fun e w' => e = .returned (.tuple #[.pointer none, .int .i64 1]) ∧ w = w' := by
  by_cases h1 : 1 ≤ N
  · have h2 : ¬ N ≤ 15 := fun h2 => h ⟨h1, h2⟩
    clear h
    go_enter Try.func9, Try.ntmps9
    go_wp2_with fail
    exact bodyPost_ret (v := .tuple #[.pointer none, .int .i64 1]) (by simp [results, Try.results9, go_sem]) rfl ⟨rfl, rfl⟩
  · clear h
    go_enter Try.func9, Try.ntmps9
    go_wp2_with fail
    exact bodyPost_ret (v := .tuple #[.pointer none, .int .i64 1]) (by simp [results, Try.results9, go_sem]) rfl ⟨rfl, rfl⟩
end Go.Proofs.Ytfmflbcmigiciaa
