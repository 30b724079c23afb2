/- BallotOrder: for every two ballots and every numbers the law's call returns true and leaves what was there as it was. -/
import Derived.Test.YtpmkpkfkimcpjaaAwake
import Derived.Test.YtpmkpkfkimcpjaaWalkD
namespace Go.Proofs.Ytpmkpkfkimcpjaa
open Go.RowKit

set_option maxHeartbeats 2000000 in
theorem lawOrder_any (x1 x2 x3 y1 y2 y3 : Int) (l : List Int) (A : Option Addr) (cap : Nat) (w : World) (hx1 : -9223372036854775808 ≤ x2) (hx2 : x2 ≤ 9223372036854775807)
    (h1 : Reads w w.heap.size 1 A l.length (l.map (.int .u64))) (hp : ∀ x ∈ l, 0 ≤ x) (hl1 : l.length ≤ maxLen) :
    Calls Try.prog 7 #[.agg #[.int .u64 x1, .int .i64 x2, .int .u64 x3], .agg #[.int .u64 y1, .int .i64 y2, .int .u64 y3], .slice A l.length cap] w
      fun e w' => e = .returned (.bool true) ∧ Below w.heap.size w w' := by
  unfold maxLen at hl1
  by_cases hc : l.length ≤ 100
  · have H1 := Lib.hid h1
    have HP := Lib.hid hp
    have hb0 := (((Below.refl w.heap.size w).alloc (Nat.le_refl _) (.cells #[.int .u64 x1, .int .i64 x2, .int .u64 x3] 27)).alloc (by simp) (.cells #[.int .u64 y1, .int .i64 y2, .int .u64 y3] 27))
    have k1 := ((Blk.new w 27 #[.int .u64 x1, .int .i64 x2, .int .u64 x3]).alloc (.cells #[.int .u64 y1, .int .i64 y2, .int .u64 y3] 27))
    have k2 := (blk_alloc2 w (.cells #[.int .u64 x1, .int .i64 x2, .int .u64 x3] 27) 27 #[.int .u64 y1, .int .i64 y2, .int .u64 y3])
    clear h1 hp
    go_enter Try.func7, Try.ntmps7
    go_wp2_with fail
    refine (puts_any _ _ _ _ hx1 hx2).mono ?_
    rintro e w1 ⟨g, rfl, hkg, hgl, hb1⟩
    have hb2 := hb0.trans (hb1.mono hb0.size)
    have kk1 := k1.below hb1 (by simp; omega)
    have kk2 := k2.below hb1 (by simp)
    clear hb0 hb1 k1 k2
    obtain ⟨a0, a1, a2⟩ := blk_cell3 kk1
    obtain ⟨c0, c1, c2⟩ := blk_cell3 hkg
    have hcut1 : ∃ v : Int, max x2 0 = v ∧ ((0 ≤ x2 ∧ v = x2) ∨ (x2 < 0 ∧ v = 0)) := by
      by_cases h : 0 ≤ x2
      · exact ⟨x2, by omega, .inl ⟨h, rfl⟩⟩
      · exact ⟨0, by omega, .inr ⟨by omega, rfl⟩⟩
    obtain ⟨v, hv, hv2⟩ := hcut1
    rw [hv] at c1 hkg
    clear hv
    go_upto_region 4 with fail
    go_cut [46] from 18 to 46 (fun r wc => r = .bool false ∧ Below w.heap.size w wc ∧ Blk wc w.heap.size 27 #[.int .u64 x1, .int .i64 x2, .int .u64 x3] ∧ Blk wc (w.heap.size + 1) 27 #[.int .u64 y1, .int .i64 y2, .int .u64 y3])
    case first =>
      rcases hv2 with ⟨h0, rfl⟩ | ⟨h0, rfl⟩
      all_goals
        go_quiet (fail)
        go_wp2_with fail
        go_meet
        exact ⟨rfl, below_drewN hb2 _, kk1.drewN _, kk2.drewN _⟩
    case rest =>
      obtain ⟨rfl, hb, k1, k2⟩ := hcut
      clear hv2 hb2 a0 a1 a2 c0 c1 c2 hkg kk1 kk2
      go_wp2_with fail
      have CO := Lib.hid (of_any l A cap wc ((H1.out.below hb).more hb.size) HP.out (by omega))
      have CR := Lib.hid (fun W R => rof_any l A cap W R HP.out (by omega))
      obtain ⟨⟨⟨z1, z2, z3⟩, zo⟩, hZ⟩ : ∃ Z, ofB l = Z := ⟨_, rfl⟩
      rw [hZ] at CO CR
      clear hZ
      refine CO.out.mono ?_
      rintro e w2 ⟨rfl, hb3⟩
      have hb4 := hb.trans (hb3.mono hb.size)
      have k1 := k1.below hb3 k1.lt
      have k2 := k2.below hb3 k2.lt
      have hb5 := hb4.alloc hb4.size (.cells #[.int .u64 z1, .int .i64 z2, .int .u64 z3] 27)
      have k1 := k1.alloc (.cells #[.int .u64 z1, .int .i64 z2, .int .u64 z3] 27)
      have k2 := k2.alloc (.cells #[.int .u64 z1, .int .i64 z2, .int .u64 z3] 27)
      have k3 := Blk.new w2 27 #[.int .u64 z1, .int .i64 z2, .int .u64 z3]
      clear hb hb3 hb4 CO
      go_wp2_with fail
      refine (CR.out _ ((H1.out.below hb5).more hb5.size)).mono ?_
      rintro e w3 ⟨rfl, hb6⟩
      have hb7 := hb5.trans (hb6.mono hb5.size)
      have k1 := k1.below hb6 k1.lt
      have k2 := k2.below hb6 k2.lt
      have k3 := k3.below hb6 k3.lt
      have hb8 := hb7.alloc hb7.size (.cells #[.int .u64 z1, .int .i64 z2, .int .u64 z3] 27)
      have k1 := k1.alloc (.cells #[.int .u64 z1, .int .i64 z2, .int .u64 z3] 27)
      have k2 := k2.alloc (.cells #[.int .u64 z1, .int .i64 z2, .int .u64 z3] 27)
      have k3 := k3.alloc (.cells #[.int .u64 z1, .int .i64 z2, .int .u64 z3] 27)
      have k4 := Blk.new w3 27 #[.int .u64 z1, .int .i64 z2, .int .u64 z3]
      clear hb5 hb6 hb7 CR
      go_wp2_with fail
      generalize w3.alloc (.cells #[.int .u64 z1, .int .i64 z2, .int .u64 z3] 27) = W at hb8 k1 k2 k3 k4 ⊢
      have hzz : (zo == zo) = true := by simp
      refine Seg.region [(28, true)] (by kernel_rfl) (by kernel_rfl) ?_
      intro ι _ f hf hx
      simp only [List.take_succ_cons, List.take_zero, List.drop_succ_cons, List.drop_zero]
      have hf := fun i => below_of_drew (hf i)
      obtain ⟨a0, a1, a2⟩ := blk_cells3 (fun i => k1.below (hf i) k1.lt)
      obtain ⟨b0, b1, b2⟩ := blk_cells3 (fun i => k2.below (hf i) k2.lt)
      obtain ⟨c0, c1, c2⟩ := blk_cells3 (fun i => k3.below (hf i) k3.lt)
      obtain ⟨d0, d1, d2⟩ := blk_cells3 (fun i => k4.below (hf i) k4.lt)
      have HB := Lib.hid (fun i => hb8.trans ((hf i).mono hb8.size))
      clear hb8 k1 k2 k3 k4 hf
      repeat (go_big_quiet_step (first
        | (go_at_call 17; exact (cmp_any _ _ _ _ _ _ _).mono fun _ _ hh => ⟨hh.1, hx _ _ hh.2⟩)
        | (go_at_call 23; exact (rcmp_any _ _ _ _ _ _ _).mono fun _ _ hh => ⟨hh.1, hx _ _ hh.2⟩)
        | (go_at_call 18; exact (may_any _ _ _ _).mono fun _ _ hh => ⟨hh.1, hx _ _ hh.2⟩)
        | (go_at_call 22; exact (rmay_any _ _ _ _).mono fun _ _ hh => ⟨hh.1, hx _ _ hh.2⟩)
        | (go_at_call 10; exact (awake_any _).mono fun _ _ hh => ⟨hh.1, hx _ _ hh.2⟩)))
      refine wpQuiet_nil ?_
      intro i
      have hBi := HB.out i
      simp only [Seg.Walk]
      go_wp2_with fail
      go_ret
      exact ⟨rfl, hBi⟩
  · clear h1 hp
    go_enter Try.func7, Try.ntmps7
    go_wp2_with fail
    refine (awake_any _).mono ?_
    rintro e w8 ⟨rfl, hb12⟩
    go_wp2_with fail
    go_ret
    exact ⟨rfl, ((((Below.refl _ _).alloc (Nat.le_refl _) _).alloc (by simp) _)).trans (hb12.mono (by simp; omega))⟩
end Go.Proofs.Ytpmkpkfkimcpjaa
