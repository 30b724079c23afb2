/- Chapter 06: the chapter's examples hold. -/
import Derived.Test.YtpmkpkfkimcpjaaWalkC
namespace Go.Proofs.Ytpmkpkfkimcpjaa
open Go.RowKit

theorem next_4122 : nextB 3 7 [⟨4, 1, 1⟩, ⟨2, 2, 2⟩] = (⟨5, 3, 7⟩, 0) := by decide
theorem next_bad : nextB 0 1 [] = (Bal.zero, 1) := by decide

theorem cmp_val (v : Int) (a b c x y z : Int) (h : cmpB ⟨a, b, c⟩ ⟨x, y, z⟩ = v) (w : World) :
    Calls Try.prog 17 #[.agg #[.int .u64 a, .int .i64 b, .int .u64 c], .agg #[.int .u64 x, .int .i64 y, .int .u64 z]] w fun e w' => e = .returned (.int .i64 v) ∧ Below w.heap.size w w' := by
  rw [← h]; exact cmp_any a b c x y z w
theorem quorum_val (v : Bool) (n : Int) (l : List Int) (A : Option Addr) (k cap : Nat) (w : World) (hk : l.length = k) (h : Reads w w.heap.size 1 A k (l.map (.int .i64))) (hl : l.length ≤ 100000)
    (hn1 : -9223372036854775808 ≤ n) (hn2 : n ≤ 9223372036854775807) (hv : quorumB n l = v) :
    Calls Try.prog 15 #[.int .i64 n, .slice A k cap] w fun e w' => e = .returned (.bool v) ∧ Below w.heap.size w w' := by
  subst hk; rw [← hv]; exact quorum_any n l A cap w h hl hn1 hn2

set_option maxHeartbeats 1000000 in
theorem awake_any (w : World) : Calls Try.prog 10 #[] w fun e w' => e = .returned (.bool true) ∧ Below w.heap.size w w' := by
  go_enter Try.func10, Try.ntmps10
  go_wp2_with fail
  refine (b_any _ _ _ _).mono ?_
  rintro e w1 ⟨rfl, hb1⟩
  go_wp2_with fail
  refine (b_any _ _ _ _).mono ?_
  rintro e w2 ⟨rfl, hb2⟩
  have hb := hb1.trans (hb2.mono hb1.size)
  clear hb1 hb2
  go_wp2_with fail
  refine (next_any 3 7 [⟨4, 1, 1⟩, ⟨2, 2, 2⟩] (some ⟨w2.heap.size, 0, none⟩) 2 _ (Reads.of_blk (Blk.new _ _ _) rfl rfl) (by decide) (by simp [Bal.ok])).mono ?_
  rintro e w3 ⟨rfl, hb3⟩
  have hb := (hb.alloc hb.size _).trans (hb3.mono (by have := hb.size; simp; omega))
  clear hb3
  rw [next_4122]
  go_wp2_with fail
  refine (next_any 0 1 [] none 0 _ Reads.none_ (by decide) (by simp)).mono ?_
  rintro e w4 ⟨rfl, hb4⟩
  rw [next_bad]
  go_wp2_with fail
  have hbW := (hb.alloc hb.size (Obj.cells #[Value.int IntKind.u64 5, Value.int IntKind.i64 3, Value.int IntKind.u64 7] 27)).trans (hb4.mono (by have := hb.size; simp; omega))
  have hk := (Blk.new w3 27 #[Value.int IntKind.u64 5, Value.int IntKind.i64 3, Value.int IntKind.u64 7]).below hb4 (by simp)
  have hbW := hbW.alloc hbW.size (Obj.cells #[Value.int IntKind.u64 Bal.zero.r, Value.int IntKind.i64 Bal.zero.n, Value.int IntKind.u64 Bal.zero.i] 27)
  have hk := hk.alloc (Obj.cells #[Value.int IntKind.u64 Bal.zero.r, Value.int IntKind.i64 Bal.zero.n, Value.int IntKind.u64 Bal.zero.i] 27)
  generalize hW : w4.alloc (Obj.cells #[Value.int IntKind.u64 Bal.zero.r, Value.int IntKind.i64 Bal.zero.n, Value.int IntKind.u64 Bal.zero.i] 27) = W at hk hbW ⊢
  clear hW
  have c0 := hk.cell 0
  have c1 := hk.cell 1
  have c2 := hk.cell 2
  simp at c0 c1 c2
  have hlt := hk.lt
  refine Seg.region [(24, true), (13, false)] (by kernel_rfl) (by kernel_rfl) ?_
  intro ι _ f hf hx
  simp only [List.take_succ_cons, List.take_zero, List.drop_succ_cons, List.drop_zero]
  have d0 : ∀ i, (f i).cell? ⟨w3.heap.size, 0, none⟩ = some (Value.int IntKind.u64 5) := fun i => ((hf i).cell (p := ⟨w3.heap.size, 0, none⟩) hlt).trans c0
  have d1 : ∀ i, (f i).cell? ⟨w3.heap.size, 1, none⟩ = some (Value.int IntKind.i64 3) := fun i => ((hf i).cell (p := ⟨w3.heap.size, 1, none⟩) hlt).trans c1
  have d2 : ∀ i, (f i).cell? ⟨w3.heap.size, 2, none⟩ = some (Value.int IntKind.u64 7) := fun i => ((hf i).cell (p := ⟨w3.heap.size, 2, none⟩) hlt).trans c2
  repeat (go_big_quiet_step (first
    | (go_at_call 27; exact (b_any _ _ _ _).mono fun _ _ hh => ⟨hh.1, hx _ _ hh.2⟩)
    | (go_at_call 17; exact (cmp_val 1 _ _ _ _ _ _ (by decide) _).mono fun _ _ hh => ⟨hh.1, hx _ _ hh.2⟩)))
  refine wpQuiet_nil ?_
  intro i0
  have hi0 := hf i0
  simp only [Seg.Walk]
  generalize f i0 = W1 at hi0 ⊢
  have hb1 : Below w.heap.size w W1 := hbW.drew.trans (hi0.mono hbW.size)
  clear hi0 d0 d1 d2 hx hf
  go_wp2_with fail
  refine (quorum_val false 3 [1, 1] (some ⟨W1.heap.size, 0, none⟩) 2 2 _ rfl (Reads.of_blk (Blk.new _ _ _) rfl rfl) (by decide) (by decide) (by decide) (by decide)).mono ?_
  rintro e W2 ⟨rfl, hb2⟩
  have hb3 := (hb1.alloc hb1.size _).trans (hb2.mono (by have := hb1.size; simp; omega))
  clear hb2
  go_wp2_with fail
  refine (quorum_val true 3 [1, 3] (some ⟨W2.heap.size, 0, none⟩) 2 2 _ rfl (Reads.of_blk (Blk.new _ _ _) rfl rfl) (by decide) (by decide) (by decide) (by decide)).mono ?_
  rintro e W3 ⟨rfl, hb2⟩
  have hb4 := (hb3.alloc hb3.size _).trans (hb2.mono (by have := hb3.size; simp; omega))
  clear hb2
  go_wp2_with fail
  refine (quorum_val true 1 [1] (some ⟨W3.heap.size, 0, none⟩) 1 1 _ rfl (Reads.of_blk (Blk.new _ _ _) rfl rfl) (by decide) (by decide) (by decide) (by decide)).mono ?_
  rintro e W4 ⟨rfl, hb2⟩
  have hb5 := (hb4.alloc hb4.size _).trans (hb2.mono (by have := hb4.size; simp; omega))
  clear hb2
  go_wp2_with fail
  simp only [Seg.thenK]
  go_wp2
  go_ret
  exact ⟨rfl, hb5⟩
end Go.Proofs.Ytpmkpkfkimcpjaa
