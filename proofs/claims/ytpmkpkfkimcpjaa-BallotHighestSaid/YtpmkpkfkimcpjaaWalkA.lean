/- Chapter 06, what the small functions of ballot and of its reference compute: lives, how two ballots stand, the greatest of a row, the next one. -/
import Derived.Test.YtpmkpkfkimcpjaaProg
import Derived.Test.YtpmkpkfkimcpjaaBase
import Derived.Test.YtpmkpkfkimcpjaaPlain
namespace Go.Proofs.Ytpmkpkfkimcpjaa
open Go.RowKit

def Bal.cs (b : Bal) : List Value := [.int .u64 b.r, .int .i64 b.n, .int .u64 b.i]
theorem balcs_len (x : Bal) : x.cs.length = 3 := rfl
theorem balcs_eq {x : Bal} {r n i : Int} (h : x = ⟨r, n, i⟩) : x.cs.toArray = #[.int .u64 r, .int .i64 n, .int .u64 i] := by rw [h]; rfl

set_option maxHeartbeats 400000 in
theorem life_any (n i : Int) (w : World) :
    Calls Try.prog 28 #[.int .i64 n, .int .u64 i] w fun e w' => e = .returned (.bool (lifeB n i)) ∧ w = w' := by
  go_enter Try.func28, Try.ntmps28
  go_wp2
  all_goals
    go_ret
    exact ⟨ret_bool (by unfold lifeB; rw [Bool.eq_iff_iff]; simp; omega), rfl⟩

set_option maxHeartbeats 400000 in
theorem rlife_any (n i : Int) (w : World) :
    Calls Try.prog 30 #[.int .i64 n, .int .u64 i] w fun e w' => e = .returned (.bool (lifeB n i)) ∧ w = w' := by
  go_enter Try.func30, Try.ntmps30
  go_wp2
  all_goals
    go_ret
    exact ⟨ret_bool (by unfold lifeB; rw [Bool.eq_iff_iff]; simp; omega), rfl⟩

set_option maxHeartbeats 400000 in
theorem cmpu_any (a b : Int) (w : World) :
    Calls Try.prog 33 #[.int .u64 a, .int .u64 b] w fun e w' => e = .returned (.int .i64 (cmpI a b)) ∧ w = w' := by
  go_enter Try.func33, Try.ntmps33
  go_wp2
  all_goals
    go_ret
    exact ⟨ret_int (by unfold cmpI; repeat' split
                       all_goals omega), rfl⟩

set_option maxHeartbeats 400000 in
theorem cmpi_any (a b : Int) (w : World) :
    Calls Try.prog 34 #[.int .i64 a, .int .i64 b] w fun e w' => e = .returned (.int .i64 (cmpI a b)) ∧ w = w' := by
  go_enter Try.func34, Try.ntmps34
  go_wp2
  all_goals
    go_ret
    exact ⟨ret_int (by unfold cmpI; repeat' split
                       all_goals omega), rfl⟩

set_option maxHeartbeats 400000 in
theorem or_any (a b c : Int) (g : Nat) (w : World) (h0 : w.cell? ⟨g, 0, none⟩ = some (.int .i64 a)) (h1 : w.cell? ⟨g, 1, none⟩ = some (.int .i64 b))
    (h2 : w.cell? ⟨g, 2, none⟩ = some (.int .i64 c)) :
    Calls Try.prog 32 #[.slice (some ⟨g, 0, none⟩) 3 3] w fun e w' => e = .returned (.int .i64 (orI a b c)) ∧ w = w' := by
  go_enter Try.func32, Try.ntmps32
  go_wp2
  refine wp_loop_rounds 4 ?_
  rw [rounds_succ]
  go_wp2
  · go_ret
    exact ⟨ret_int (by unfold orI; rw [if_pos (by simp_all)]), rfl⟩
  rw [rounds_succ]
  go_wp2
  · go_ret
    exact ⟨ret_int (by unfold orI; rw [if_neg (by simp_all), if_pos (by simp_all)]), rfl⟩
  rw [rounds_succ]
  go_wp2
  · go_ret
    exact ⟨ret_int (by unfold orI; rw [if_neg (by simp_all), if_neg (by simp_all)]), rfl⟩
  rw [rounds_succ]
  go_wp2
  · go_ret
    exact ⟨ret_int (by unfold orI; rw [if_neg (by simp_all), if_neg (by simp_all)]; simp_all), rfl⟩

set_option maxHeartbeats 400000 in
theorem cmp_any (a b c x y z : Int) (w : World) :
    Calls Try.prog 17 #[.agg #[.int .u64 a, .int .i64 b, .int .u64 c], .agg #[.int .u64 x, .int .i64 y, .int .u64 z]] w fun e w' => e = .returned (.int .i64 (cmpB ⟨a, b, c⟩ ⟨x, y, z⟩)) ∧ Below w.heap.size w w' := by
  go_enter Try.func17, Try.ntmps17
  go_wp2
  refine still_tail 15 (by kernel_rfl) (by kernel_rfl) ?_
  simp only [List.take_succ_cons, List.take_zero, List.drop_succ_cons, List.drop_zero]
  iterate 4 still_step
  still_call (calls_left (cmpu_any _ _ _))
  iterate 4 still_step
  still_call (calls_left (cmpi_any _ _ _))
  iterate 4 still_step
  still_call (calls_left (cmpu_any _ _ _))
  refine wpStill_nil ?_
  go_wp2_with fail
  refine (or_any (cmpI a x) (cmpI b y) (cmpI c z) _ _ ?_ ?_ ?_).mono ?_
  · go_simp
  · go_simp
  · go_simp
  rintro e w' ⟨rfl, rfl⟩
  go_wp2
  go_ret
  exact ⟨rfl, ((((Below.refl _ _).alloc (Nat.le_refl _) _).alloc (by simp) _).drew).alloc (by simp; omega) _⟩

def mayB (b : Bal) : Bool := decide (1 ≤ b.r) && decide (b.r ≤ 4611686018427387903) && lifeB b.n b.i

set_option maxHeartbeats 400000 in
theorem may_any (a b c : Int) (w : World) :
    Calls Try.prog 18 #[.agg #[.int .u64 a, .int .i64 b, .int .u64 c]] w fun e w' => e = .returned (.bool (mayB ⟨a, b, c⟩)) ∧ Below w.heap.size w w' := by
  go_enter Try.func18, Try.ntmps18
  go_wp2_with (go_at_call 28; refine (life_any _ _ _).mono ?_; rintro e w' ⟨rfl, rfl⟩)
  all_goals
    go_ret
    refine ⟨ret_bool ?_, (Below.refl _ _).alloc (Nat.le_refl _) _⟩
    unfold mayB; rw [Bool.eq_iff_iff]; simp; omega

set_option maxHeartbeats 400000 in
theorem rmay_any (a b c : Int) (w : World) :
    Calls Try.prog 22 #[.agg #[.int .u64 a, .int .i64 b, .int .u64 c]] w fun e w' => e = .returned (.bool (mayB ⟨a, b, c⟩)) ∧ Below w.heap.size w w' := by
  go_enter Try.func22, Try.ntmps22
  go_wp2_with (go_at_call 30; refine (rlife_any _ _ _).mono ?_; rintro e w' ⟨rfl, rfl⟩)
  all_goals
    go_ret
    refine ⟨ret_bool ?_, (Below.refl _ _).alloc (Nat.le_refl _) _⟩
    unfold mayB; rw [Bool.eq_iff_iff]; simp; omega

set_option maxHeartbeats 400000 in
theorem rcmp_any (a b c x y z : Int) (w : World) :
    Calls Try.prog 23 #[.agg #[.int .u64 a, .int .i64 b, .int .u64 c], .agg #[.int .u64 x, .int .i64 y, .int .u64 z]] w fun e w' => e = .returned (.int .i64 (cmpB ⟨a, b, c⟩ ⟨x, y, z⟩)) ∧ Below w.heap.size w w' := by
  go_enter Try.func23, Try.ntmps23
  go_wp2
  all_goals
    go_ret
    refine ⟨ret_int ?_, ((Below.refl _ _).alloc (Nat.le_refl _) _).alloc (by simp) _⟩
    simp only [bne_iff_ne, ne_eq, bne_eq_false_iff_eq] at *
    unfold cmpB orI cmpI
    simp only []
    repeat' split
    all_goals omega

set_option maxHeartbeats 400000 in
theorem b_any (a b c : Int) (w : World) :
    Calls Try.prog 27 #[.int .u64 a, .int .i64 b, .int .u64 c] w fun e w' => e = .returned (.agg #[.int .u64 a, .int .i64 b, .int .u64 c]) ∧ Below w.heap.size w w' := by
  go_enter Try.func27, Try.ntmps27
  go_wp2
  refine bodyPost_ret (v := .agg #[.int .u64 a, .int .i64 b, .int .u64 c]) (by simp [results, Try.results27, go_sem]) rfl ⟨rfl, (Below.refl _ _).alloc (Nat.le_refl _) _⟩

set_option maxHeartbeats 400000 in
theorem majority_any (n : Int) (w : World) (h1 : -9223372036854775808 ≤ n) (h2 : n ≤ 9223372036854775807) :
    Calls Try.prog 13 #[.int .i64 n] w fun e w' => e = .returned (.int .i64 (majI n)) ∧ w = w' := by
  by_cases hn : n < 1
  all_goals
    go_enter Try.func13, Try.ntmps13
    go_wp2
    go_ret
    exact ⟨ret_int (by unfold majI; split <;> omega), rfl⟩

set_option maxHeartbeats 400000 in
theorem rmajority_any (n : Int) (w : World) (h1 : -9223372036854775808 ≤ n) (h2 : n ≤ 9223372036854775807) :
    Calls Try.prog 14 #[.int .i64 n] w fun e w' => e = .returned (.int .i64 (majI n)) ∧ w = w' := by
  by_cases hn : n < 1
  all_goals
    go_enter Try.func14, Try.ntmps14
    go_wp2
    go_ret
    exact ⟨ret_int (by unfold majI; split <;> omega), rfl⟩

end Go.Proofs.Ytpmkpkfkimcpjaa
