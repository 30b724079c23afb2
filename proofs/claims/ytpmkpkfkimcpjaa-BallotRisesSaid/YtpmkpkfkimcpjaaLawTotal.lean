/- BallotTotal: for every three ballots and every life the law's call returns true and leaves what was there as it was. -/
import Derived.Test.YtpmkpkfkimcpjaaAwake
import Derived.Test.YtpmkpkfkimcpjaaMore
import Derived.Test.YtpmkpkfkimcpjaaPlainM
namespace Go.Proofs.Ytpmkpkfkimcpjaa
open Go.RowKit

theorem cmp_trans (a b c : Bal) (h1 : cmpB a b ≤ 0) (h2 : cmpB b c ≤ 0) : cmpB a c ≤ 0 := by
  have e1 := cmp_neg_iff b a
  have e2 := cmp_neg_iff c b
  have e3 := cmp_neg_iff c a
  have s1 := cmp_swap a b
  have s2 := cmp_swap b c
  have s3 := cmp_swap a c
  have n1 : ¬ cmpB b a < 0 := by omega
  have n2 : ¬ cmpB c b < 0 := by omega
  have n3 : ¬ cmpB c a < 0 := by rw [e3]; rw [e1] at n1; rw [e2] at n2; omega
  omega
theorem run_eql_bal (x1 x2 x3 y1 y2 y3 : Int) (W : World) :
    (binOp .eql 27 (.agg #[.int .u64 x1, .int .i64 x2, .int .u64 x3]) (.agg #[.int .u64 y1, .int .i64 y2, .int .u64 y3])).run Try.prog W = .ok (.bool (decide ((⟨x1, x2, x3⟩ : Bal) = ⟨y1, y2, y3⟩))) W := by
  have e : ((⟨x1, x2, x3⟩ : Bal) = ⟨y1, y2, y3⟩) = (x1 = y1 ∧ x2 = y2 ∧ x3 = y3) := by simp
  simp only [e]
  simp [go_sem]
  by_cases h1 : x1 = y1 <;> by_cases h2 : x2 = y2 <;> by_cases h3 : x3 = y3 <;> simp [h1, h2, h3]

set_option maxHeartbeats 2000000 in
theorem lawTotal_any (x1 x2 x3 y1 y2 y3 z1 z2 z3 node inc : Int) (w : World) (okx : Bal.ok ⟨x1, x2, x3⟩) (oky : Bal.ok ⟨y1, y2, y3⟩) (okz : Bal.ok ⟨z1, z2, z3⟩) :
    Calls Try.prog 5 #[.agg #[.int .u64 x1, .int .i64 x2, .int .u64 x3], .agg #[.int .u64 y1, .int .i64 y2, .int .u64 y3], .agg #[.int .u64 z1, .int .i64 z2, .int .u64 z3], .int .i64 node, .int .u64 inc] w
      fun e w' => e = .returned (.bool true) ∧ Below w.heap.size w w' := by
  go_enter Try.func5, Try.ntmps5
  go_upto_region 1 with fail
  have hb0 := (((Below.refl w.heap.size w).alloc (Nat.le_refl _) (.cells #[.int .u64 x1, .int .i64 x2, .int .u64 x3] 27)).alloc (by simp) (.cells #[.int .u64 y1, .int .i64 y2, .int .u64 y3] 27)).alloc (by simp; omega) (.cells #[.int .u64 z1, .int .i64 z2, .int .u64 z3] 27)
  have k1 := ((Blk.new w 27 #[.int .u64 x1, .int .i64 x2, .int .u64 x3]).alloc (.cells #[.int .u64 y1, .int .i64 y2, .int .u64 y3] 27)).alloc (.cells #[.int .u64 z1, .int .i64 z2, .int .u64 z3] 27)
  have k2 := (Blk.new (w.alloc (.cells #[.int .u64 x1, .int .i64 x2, .int .u64 x3] 27)) 27 #[.int .u64 y1, .int .i64 y2, .int .u64 y3]).alloc (.cells #[.int .u64 z1, .int .i64 z2, .int .u64 z3] 27)
  have k3 := Blk.new ((w.alloc (.cells #[.int .u64 x1, .int .i64 x2, .int .u64 x3] 27)).alloc (.cells #[.int .u64 y1, .int .i64 y2, .int .u64 y3] 27)) 27 #[.int .u64 z1, .int .i64 z2, .int .u64 z3]
  simp only [World.size_alloc] at k2 k3
  generalize ((w.alloc (.cells #[.int .u64 x1, .int .i64 x2, .int .u64 x3] 27)).alloc (.cells #[.int .u64 y1, .int .i64 y2, .int .u64 y3] 27)).alloc (.cells #[.int .u64 z1, .int .i64 z2, .int .u64 z3] 27) = W at hb0 k1 k2 k3 ⊢
  have hg1 : Hid (w.heap.size ≤ w.heap.size) := Lib.hid (Nat.le_refl _)
  go_cut [48] from 13 to 48 (fun v wc => v = .bool false ∧ Below w.heap.size w wc ∧ Blk wc w.heap.size 27 #[.int .u64 x1, .int .i64 x2, .int .u64 x3] ∧ Blk wc (w.heap.size + 1) 27 #[.int .u64 y1, .int .i64 y2, .int .u64 y3] ∧ Blk wc (w.heap.size + 1 + 1) 27 #[.int .u64 z1, .int .i64 z2, .int .u64 z3])
  case first =>
    have hR := cmp_range ⟨x1, x2, x3⟩ ⟨y1, y2, y3⟩
    have hS := cmp_range ⟨y1, y2, y3⟩ ⟨z1, z2, z3⟩
    have hyx := cmp_swap ⟨x1, x2, x3⟩ ⟨y1, y2, y3⟩
    have hE := run_eql_bal x1 x2 x3 y1 y2 y3
    have hzero := cmp_zero_iff ⟨x1, x2, x3⟩ ⟨y1, y2, y3⟩
    have htr := cmp_trans ⟨x1, x2, x3⟩ ⟨y1, y2, y3⟩ ⟨z1, z2, z3⟩
    refine Seg.region [(36, true)] (by kernel_rfl) (by kernel_rfl) ?_
    intro ι _ f hf hx
    simp only [List.take_succ_cons, List.take_zero, List.drop_succ_cons, List.drop_zero]
    have hf := fun i => below_of_drew (hf i)
    obtain ⟨a0, a1, a2⟩ := blk_cells3 (fun i => k1.below (hf i) k1.lt)
    obtain ⟨b0, b1, b2⟩ := blk_cells3 (fun i => k2.below (hf i) k2.lt)
    obtain ⟨c0, c1, c2⟩ := blk_cells3 (fun i => k3.below (hf i) k3.lt)
    have HB := Lib.hid (fun i => hb0.trans ((hf i).mono hb0.size))
    have HK := Lib.hid (fun i => And.intro (k1.below (hf i) k1.lt) (And.intro (k2.below (hf i) k2.lt) (k3.below (hf i) k3.lt)))
    clear hb0 k1 k2 k3 hf
    rcases hR with hp | hp | hp
    · rw [decide_eq_false (by rw [← hzero, hp]; decide)] at hE
      rw [hp] at hyx htr
      simp at hyx
      rcases hS with hq | hq | hq
      · have hr : decide (0 < cmpB ⟨x1, x2, x3⟩ ⟨z1, z2, z3⟩) = false := by rw [decide_eq_false_iff_not]; have := htr (by decide) (by omega); omega
        clear hzero htr
        repeat (go_big_quiet_step ((go_at_call 17; exact (cmp_any _ _ _ _ _ _ _).mono fun _ _ hh => ⟨hh.1, hx _ _ hh.2⟩)))
        refine wpQuiet_nil ?_
        intro i
        have hBi := HB.out i
        have hKi := HK.out i
        simp only [Seg.Walk]
        go_wp2_with fail
        go_meet
        exact ⟨rfl, hBi, hKi.1, hKi.2.1, hKi.2.2⟩
      · have hr : decide (0 < cmpB ⟨x1, x2, x3⟩ ⟨z1, z2, z3⟩) = false := by rw [decide_eq_false_iff_not]; have := htr (by decide) (by omega); omega
        clear hzero htr
        repeat (go_big_quiet_step ((go_at_call 17; exact (cmp_any _ _ _ _ _ _ _).mono fun _ _ hh => ⟨hh.1, hx _ _ hh.2⟩)))
        refine wpQuiet_nil ?_
        intro i
        have hBi := HB.out i
        have hKi := HK.out i
        simp only [Seg.Walk]
        go_wp2_with fail
        go_meet
        exact ⟨rfl, hBi, hKi.1, hKi.2.1, hKi.2.2⟩
      · clear hzero htr
        repeat (go_big_quiet_step ((go_at_call 17; exact (cmp_any _ _ _ _ _ _ _).mono fun _ _ hh => ⟨hh.1, hx _ _ hh.2⟩)))
        refine wpQuiet_nil ?_
        intro i
        have hBi := HB.out i
        have hKi := HK.out i
        simp only [Seg.Walk]
        go_wp2_with fail
        go_meet
        exact ⟨rfl, hBi, hKi.1, hKi.2.1, hKi.2.2⟩
    · rw [decide_eq_true (by rw [← hzero, hp])] at hE
      rw [hp] at hyx htr
      simp at hyx
      rcases hS with hq | hq | hq
      · have hr : decide (0 < cmpB ⟨x1, x2, x3⟩ ⟨z1, z2, z3⟩) = false := by rw [decide_eq_false_iff_not]; have := htr (by decide) (by omega); omega
        clear hzero htr
        repeat (go_big_quiet_step ((go_at_call 17; exact (cmp_any _ _ _ _ _ _ _).mono fun _ _ hh => ⟨hh.1, hx _ _ hh.2⟩)))
        refine wpQuiet_nil ?_
        intro i
        have hBi := HB.out i
        have hKi := HK.out i
        simp only [Seg.Walk]
        go_wp2_with fail
        go_meet
        exact ⟨rfl, hBi, hKi.1, hKi.2.1, hKi.2.2⟩
      · have hr : decide (0 < cmpB ⟨x1, x2, x3⟩ ⟨z1, z2, z3⟩) = false := by rw [decide_eq_false_iff_not]; have := htr (by decide) (by omega); omega
        clear hzero htr
        repeat (go_big_quiet_step ((go_at_call 17; exact (cmp_any _ _ _ _ _ _ _).mono fun _ _ hh => ⟨hh.1, hx _ _ hh.2⟩)))
        refine wpQuiet_nil ?_
        intro i
        have hBi := HB.out i
        have hKi := HK.out i
        simp only [Seg.Walk]
        go_wp2_with fail
        go_meet
        exact ⟨rfl, hBi, hKi.1, hKi.2.1, hKi.2.2⟩
      · clear hzero htr
        repeat (go_big_quiet_step ((go_at_call 17; exact (cmp_any _ _ _ _ _ _ _).mono fun _ _ hh => ⟨hh.1, hx _ _ hh.2⟩)))
        refine wpQuiet_nil ?_
        intro i
        have hBi := HB.out i
        have hKi := HK.out i
        simp only [Seg.Walk]
        go_wp2_with fail
        go_meet
        exact ⟨rfl, hBi, hKi.1, hKi.2.1, hKi.2.2⟩
    · rw [decide_eq_false (by rw [← hzero, hp]; decide)] at hE
      rw [hp] at hyx
      clear hzero htr hS
      repeat (go_big_quiet_step ((go_at_call 17; exact (cmp_any _ _ _ _ _ _ _).mono fun _ _ hh => ⟨hh.1, hx _ _ hh.2⟩)))
      refine wpQuiet_nil ?_
      intro i
      have hBi := HB.out i
      have hKi := HK.out i
      simp only [Seg.Walk]
      go_wp2_with fail
      go_meet
      exact ⟨rfl, hBi, hKi.1, hKi.2.1, hKi.2.2⟩
  case rest =>
    obtain ⟨rfl, hb, k1, k2, k3⟩ := hcut
    obtain ⟨a0, a1, a2⟩ := blk_cell3 k1
    obtain ⟨b0, b1, b2⟩ := blk_cell3 k2
    obtain ⟨c0, c1, c2⟩ := blk_cell3 k3
    clear hb0 hg1
    go_upto_region 3 with fail
    go_cut [56] from 49 to 56 (fun v wd => v = .bool false ∧ Below w.heap.size w wd ∧ Blk wd w.heap.size 27 #[.int .u64 x1, .int .i64 x2, .int .u64 x3] ∧ Blk wd (w.heap.size + 1) 27 #[.int .u64 y1, .int .i64 y2, .int .u64 y3] ∧ Blk wd (w.heap.size + 1 + 1) 27 #[.int .u64 z1, .int .i64 z2, .int .u64 z3])
    case first =>
      cases hm : mayB ⟨x1, x2, x3⟩
      · go_wp2_with fail
        refine (may_any _ _ _ _).mono ?_
        rintro e w1 ⟨rfl, hb1⟩
        go_wp2_with fail
        go_meet
        exact ⟨rfl, hb.trans (hb1.mono hb.size), k1.below hb1 k1.lt, k2.below hb1 k2.lt, k3.below hb1 k3.lt⟩
      · have hz : cmpB ⟨0, 0, 0⟩ ⟨x1, x2, x3⟩ = -1 := cmp_lt_round _ _ (by unfold mayB at hm; simp at hm ⊢; omega)
        go_wp2_with fail
        refine (may_any _ _ _ _).mono ?_
        rintro e w1 ⟨rfl, hb1⟩
        have kk1 := k1.below hb1 k1.lt
        have kk2 := k2.below hb1 k2.lt
        have kk3 := k3.below hb1 k3.lt
        have hb2 := hb.trans (hb1.mono hb.size)
        clear a0 a1 a2 b0 b1 b2 c0 c1 c2 k1 k2 k3 hb1 hb
        obtain ⟨a0, a1, a2⟩ := blk_cell3 kk1
        go_wp2_with fail
        refine (cmp_any _ _ _ _ _ _ _).mono ?_
        rintro e w2 ⟨rfl, hb1⟩
        go_wp2_with fail
        go_meet
        exact ⟨rfl, hb2.trans (hb1.mono hb2.size), kk1.below hb1 kk1.lt, kk2.below hb1 kk2.lt, kk3.below hb1 kk3.lt⟩
    case rest =>
      clear a0 a1 a2 b0 b1 b2 c0 c1 c2 k1 k2 k3 hb
      obtain ⟨rfl, hb, k1, k2, k3⟩ := hcut
      obtain ⟨a0, a1, a2⟩ := blk_cell3 k1
      obtain ⟨b0, b1, b2⟩ := blk_cell3 k2
      obtain ⟨c0, c1, c2⟩ := blk_cell3 k3
      have hok : ∀ b ∈ [(⟨x1, x2, x3⟩ : Bal), ⟨y1, y2, y3⟩, ⟨z1, z2, z3⟩], b.ok := by
        intro b hb
        simp only [List.mem_cons, List.not_mem_nil, or_false] at hb
        rcases hb with rfl | rfl | rfl <;> assumption
      have hN := next_cases node inc [⟨x1, x2, x3⟩, ⟨y1, y2, y3⟩, ⟨z1, z2, z3⟩] hok
      have HOK := Lib.hid hok
      clear hok
      go_wp2_with fail
      have CN := next_any node inc [⟨x1, x2, x3⟩, ⟨y1, y2, y3⟩, ⟨z1, z2, z3⟩] (some ⟨wc.heap.size, 0, none⟩) 3 _ (Reads.of_blk (Blk.new wc 27 #[.int .u64 x1, .int .i64 x2, .int .u64 x3, .int .u64 y1, .int .i64 y2, .int .u64 y3, .int .u64 z1, .int .i64 z2, .int .u64 z3]) rfl rfl) (by simp) HOK.out
      have hbd := hb.alloc hb.size (.cells #[.int .u64 x1, .int .i64 x2, .int .u64 x3, .int .u64 y1, .int .i64 y2, .int .u64 y3, .int .u64 z1, .int .i64 z2, .int .u64 z3] 27)
      have kk1 := k1.alloc (.cells #[.int .u64 x1, .int .i64 x2, .int .u64 x3, .int .u64 y1, .int .i64 y2, .int .u64 y3, .int .u64 z1, .int .i64 z2, .int .u64 z3] 27)
      have kk2 := k2.alloc (.cells #[.int .u64 x1, .int .i64 x2, .int .u64 x3, .int .u64 y1, .int .i64 y2, .int .u64 y3, .int .u64 z1, .int .i64 z2, .int .u64 z3] 27)
      have kk3 := k3.alloc (.cells #[.int .u64 x1, .int .i64 x2, .int .u64 x3, .int .u64 y1, .int .i64 y2, .int .u64 y3, .int .u64 z1, .int .i64 z2, .int .u64 z3] 27)
      have hN' := Lib.hid hN
      have HCN := Lib.hid CN
      clear a0 a1 a2 b0 b1 b2 c0 c1 c2 k1 k2 k3 hb hN CN
      refine HCN.out.mono ?_
      rcases hN'.out with ⟨hX, _⟩ | ⟨hX, _⟩ | ⟨R, hX, hR1, hR2, hl, hR⟩
      · rw [hX]
        rintro e w3 ⟨rfl, hb3⟩
        have hb4 := hbd.trans (hb3.mono hbd.size)
        clear hX hN' HCN hb3 kk1 kk2 kk3
        simp only [Bal.zero]
        go_wp2_with fail
        refine (awake_any _).mono ?_
        rintro e w4 ⟨rfl, hb5⟩
        have hb6 := hb4.alloc hb4.size (.cells #[.int .u64 0, .int .i64 0, .int .u64 0] 27)
        go_wp2_with fail
        go_ret
        exact ⟨rfl, hb6.trans (hb5.mono hb6.size)⟩
      · rw [hX]
        rintro e w3 ⟨rfl, hb3⟩
        have hb4 := hbd.trans (hb3.mono hbd.size)
        clear hX hN' HCN hb3 kk1 kk2 kk3
        simp only [Bal.zero]
        go_wp2_with fail
        refine (awake_any _).mono ?_
        rintro e w4 ⟨rfl, hb5⟩
        have hb6 := hb4.alloc hb4.size (.cells #[.int .u64 0, .int .i64 0, .int .u64 0] 27)
        go_wp2_with fail
        go_ret
        exact ⟨rfl, hb6.trans (hb5.mono hb6.size)⟩
      · rw [hX]
        rintro e w3 ⟨rfl, hb3⟩
        have hb4 := hbd.trans (hb3.mono hbd.size)
        have k1 := kk1.below hb3 kk1.lt
        have k2 := kk2.below hb3 kk2.lt
        have k3 := kk3.below hb3 kk3.lt
        have l1 := k1.lt
        have l2 := k2.lt
        have l3 := k3.lt
        obtain ⟨a0, a1, a2⟩ := blk_cell3 k1
        obtain ⟨b0, b1, b2⟩ := blk_cell3 k2
        obtain ⟨c0, c1, c2⟩ := blk_cell3 k3
        clear hX hN' HCN hb3 kk1 kk2 kk3 hbd
        have m0 : mayB ⟨R, node, inc⟩ = true := by unfold mayB; simp [hl, hR1, hR2]
        have n1 : cmpB ⟨x1, x2, x3⟩ ⟨R, node, inc⟩ = -1 := cmp_lt_round _ _ (hR ⟨x1, x2, x3⟩ (by simp))
        have n2 : cmpB ⟨y1, y2, y3⟩ ⟨R, node, inc⟩ = -1 := cmp_lt_round _ _ (hR ⟨y1, y2, y3⟩ (by simp))
        have n3 : cmpB ⟨z1, z2, z3⟩ ⟨R, node, inc⟩ = -1 := cmp_lt_round _ _ (hR ⟨z1, z2, z3⟩ (by simp))
        clear hl hR hR1 hR2
        have k4 := Blk.new w3 27 #[.int .u64 R, .int .i64 node, .int .u64 inc]
        have hb5 := hb4.alloc hb4.size (.cells #[.int .u64 R, .int .i64 node, .int .u64 inc] 27)
        have j1 := k1.alloc (.cells #[.int .u64 R, .int .i64 node, .int .u64 inc] 27)
        have j2 := k2.alloc (.cells #[.int .u64 R, .int .i64 node, .int .u64 inc] 27)
        have j3 := k3.alloc (.cells #[.int .u64 R, .int .i64 node, .int .u64 inc] 27)
        go_wp2_with fail
        refine (may_any _ _ _ _).mono ?_
        rintro e w4 ⟨rfl, hb6⟩
        have hb7 := hb5.trans (hb6.mono hb5.size)
        have i1 := j1.below hb6 j1.lt
        have i2 := j2.below hb6 j2.lt
        have i3 := j3.below hb6 j3.lt
        have i4 := k4.below hb6 k4.lt
        clear k1 k2 k3 k4 j1 j2 j3 a0 a1 a2 b0 b1 b2 c0 c1 c2 hb4 hb5 hb6
        obtain ⟨a0, a1, a2⟩ := blk_cell3 i1
        obtain ⟨d0, d1, d2⟩ := blk_cell3 i4
        go_wp2_with fail
        refine (cmp_any _ _ _ _ _ _ _).mono ?_
        rintro e w5 ⟨rfl, hb6⟩
        have hb8 := hb7.trans (hb6.mono hb7.size)
        have j2 := i2.below hb6 i2.lt
        have j3 := i3.below hb6 i3.lt
        have j4 := i4.below hb6 i4.lt
        clear i1 i2 i3 i4 a0 a1 a2 d0 d1 d2 hb7 hb6
        obtain ⟨a0, a1, a2⟩ := blk_cell3 j2
        obtain ⟨d0, d1, d2⟩ := blk_cell3 j4
        go_wp2_with fail
        refine (cmp_any _ _ _ _ _ _ _).mono ?_
        rintro e w6 ⟨rfl, hb6⟩
        have hb9 := hb8.trans (hb6.mono hb8.size)
        have i3 := j3.below hb6 j3.lt
        have i4 := j4.below hb6 j4.lt
        clear j2 j3 j4 a0 a1 a2 d0 d1 d2 hb8 hb6
        obtain ⟨a0, a1, a2⟩ := blk_cell3 i3
        obtain ⟨d0, d1, d2⟩ := blk_cell3 i4
        go_wp2_with fail
        refine (cmp_any _ _ _ _ _ _ _).mono ?_
        rintro e w7 ⟨rfl, hb6⟩
        have hb10 := hb9.trans (hb6.mono hb9.size)
        clear i3 i4 a0 a1 a2 d0 d1 d2 hb9 hb6
        go_wp2_with fail
        refine (awake_any _).mono ?_
        rintro e w8 ⟨rfl, hb6⟩
        go_wp2_with fail
        go_ret
        exact ⟨rfl, hb10.trans (hb6.mono hb10.size)⟩
end Go.Proofs.Ytpmkpkfkimcpjaa
