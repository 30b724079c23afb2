/- BallotBack: for every ballot and every numbers the law's call returns true and leaves what was there as it was. -/
import Derived.Test.YtpmkpkfkimcpjaaAwake
import Derived.Test.YtpmkpkfkimcpjaaWalkD
namespace Go.Proofs.Ytpmkpkfkimcpjaa
open Go.RowKit

theorem ofB_back (x : Bal) (h : mayB x = true ∨ x = Bal.zero) : ofB [x.r, max x.n 0, x.i] = (x, true) := by
  have hx : max x.n 0 = x.n ∧ ¬ 15 < x.n := by
    rcases h with h | rfl
    · unfold mayB lifeB at h; simp at h; omega
    · simp [Bal.zero]
  unfold ofB
  simp only [hx.1, if_neg hx.2]
  rw [if_pos (h.symm)]
theorem ofB_true (l : List Int) (z : Bal) (h : ofB l = (z, true)) (hp : ∀ x ∈ l, 0 ≤ x) : ∃ a b c, l = [a, b, c] ∧ z = ⟨a, b, c⟩ ∧ 0 ≤ b ∧ b ≤ 15 := by
  unfold ofB at h
  split at h
  · rename_i a b c
    refine ⟨a, b, c, rfl, ?_⟩
    have hb := hp b (by simp)
    split at h
    · simp at h
    · split at h
      · simp at h; exact ⟨h.symm, by omega, by omega⟩
      · simp at h
  · simp at h
theorem ofB_false (l : List Int) (z : Bal) (h : ofB l = (z, false)) : z = Bal.zero := by
  unfold ofB at h
  split at h
  · split at h
    · simp at h; exact h.symm
    · split at h
      · simp at h
      · simp at h; exact h.symm
  · simp at h; exact h.symm

set_option maxHeartbeats 2000000 in
theorem lawBack_any (x1 x2 x3 : Int) (l : List Int) (A : Option Addr) (cap : Nat) (w : World) (hxo : Bal.ok ⟨x1, x2, x3⟩)
    (h1 : Reads w w.heap.size 1 A l.length (l.map (.int .u64))) (hp : ∀ x ∈ l, 0 ≤ x) (hl1 : l.length ≤ maxLen) :
    Calls Try.prog 8 #[.agg #[.int .u64 x1, .int .i64 x2, .int .u64 x3], .slice A l.length cap] w
      fun e w' => e = .returned (.bool true) ∧ Below w.heap.size w w' := by
  unfold maxLen at hl1
  by_cases hc : l.length ≤ 100
  · have H1 := Lib.hid h1
    have HP := Lib.hid hp
    have hb0 := ((Below.refl w.heap.size w).alloc (Nat.le_refl _) (.cells #[.int .u64 x1, .int .i64 x2, .int .u64 x3] 27))
    have k1 := Blk.new w 27 #[.int .u64 x1, .int .i64 x2, .int .u64 x3]
    clear h1 hp
    go_enter Try.func8, Try.ntmps8
    go_wp2_with fail
    refine (puts_any _ _ _ _ hxo.2.2.1 hxo.2.2.2.1).mono ?_
    rintro e w1 ⟨g, rfl, hkg, hgl, hb1⟩
    have hb2 := hb0.trans (hb1.mono hb0.size)
    have kk1 := k1.below hb1 (by simp)
    clear hb0 hb1 k1
    have CO := Lib.hid (of_any [x1, max x2 0, x3] (some ⟨g, 0, none⟩) 3 w1 (Reads.of_blk hkg rfl rfl) (by intro y hy; have := hxo.1; have := hxo.2.2.2.2.1; simp only [List.mem_cons, List.not_mem_nil, or_false] at hy; simp only [] at *; rcases hy with rfl | rfl | rfl <;> omega) (by simp))
    have HB := Lib.hid (ofB_back ⟨x1, x2, x3⟩)
    obtain ⟨⟨⟨y1, y2, y3⟩, yo⟩, hY⟩ : ∃ Y, ofB [x1, max x2 0, x3] = Y := ⟨_, rfl⟩
    have hE := run_eqB x1 x2 x3 0 0 0
    rw [hY] at CO
    have HY := Lib.hid hY
    clear hY hkg
    go_wp2_with fail
    refine CO.out.mono ?_
    rintro e w2 ⟨rfl, hb3⟩
    have hb4 := hb2.trans (hb3.mono hb2.size)
    have k1 := kk1.below hb3 kk1.lt
    have hb5 := hb4.alloc hb4.size (.cells #[.int .u64 y1, .int .i64 y2, .int .u64 y3] 27)
    have k1 := k1.alloc (.cells #[.int .u64 y1, .int .i64 y2, .int .u64 y3] 27)
    have k2 := Blk.new w2 27 #[.int .u64 y1, .int .i64 y2, .int .u64 y3]
    clear hb2 hb3 hb4 CO kk1
    go_upto_region 4 with fail
    go_cut [35] from 20 to 35 (fun r wc => r = .bool false ∧ Below w.heap.size w wc)
    case first =>
      generalize w2.alloc (.cells #[.int .u64 y1, .int .i64 y2, .int .u64 y3] 27) = W at hb5 k1 k2 ⊢
      obtain ⟨a0, a1, a2⟩ := blk_cell3 k1
      go_wp2_with fail
      refine (may_any _ _ _ _).mono ?_
      rintro e w3 ⟨rfl, hb6⟩
      have hb7 := hb5.trans (hb6.mono hb5.size)
      have kk1 := k1.below hb6 k1.lt
      have kk2 := k2.below hb6 k2.lt
      clear a0 a1 a2 k1 k2 hb5 hb6
      obtain ⟨a0, a1, a2⟩ := blk_cell3 kk1
      obtain ⟨b0, b1, b2⟩ := blk_cell3 kk2
      by_cases hP : mayB ⟨x1, x2, x3⟩ = true ∨ (⟨x1, x2, x3⟩ : Bal) = Bal.zero
      · have hyy := HB.out hP
        have := HY.out.symm.trans hyy
        simp only [Prod.mk.injEq, Bal.mk.injEq] at this
        obtain ⟨⟨rfl, rfl, rfl⟩, rfl⟩ := this
        have hN := run_neB y1 y2 y3 y1 y2 y3
        simp only [decide_true, Bool.not_true] at hN
        clear hyy HY HB
        cases hm : mayB ⟨y1, y2, y3⟩
        · rw [hm] at hP
          have hz := hP.resolve_left (by simp)
          rw [decide_eq_true (show (⟨y1, y2, y3⟩ : Bal) = ⟨0, 0, 0⟩ from hz)] at hE
          clear hP hz
          go_wp2_with fail
          go_meet
          exact ⟨rfl, hb7⟩
        · clear hP
          go_wp2_with fail
          go_meet
          exact ⟨rfl, hb7⟩
      · have hm : mayB ⟨x1, x2, x3⟩ = false := by cases h : mayB ⟨x1, x2, x3⟩; rfl; exact absurd (.inl h) hP
        have hz : ¬ (⟨x1, x2, x3⟩ : Bal) = ⟨0, 0, 0⟩ := fun h => hP (.inr h)
        rw [decide_eq_false hz] at hE
        clear hP hz HY HB
        go_wp2_with fail
        go_meet
        exact ⟨rfl, hb7⟩
    case rest =>
      obtain ⟨rfl, hb⟩ := hcut
      clear hb5 k1 k2 hE HY HB
      have CO := Lib.hid (of_any l A cap wc ((H1.out.below hb).more hb.size) HP.out (by omega))
      have HT := Lib.hid (fun z h => ofB_true l z h HP.out)
      have HF := Lib.hid (ofB_false l)
      obtain ⟨⟨⟨z1, z2, z3⟩, zo⟩, hZ⟩ : ∃ Z, ofB l = Z := ⟨_, rfl⟩
      rw [hZ] at CO HT HF
      clear hZ
      go_wp2_with fail
      refine CO.out.mono ?_
      rintro e w3 ⟨rfl, hb3⟩
      have hb4 := hb.trans (hb3.mono hb.size)
      clear hb hb3 CO
      cases zo
      · have := HF.out _ rfl
        simp only [Bal.zero, Bal.mk.injEq] at this
        obtain ⟨rfl, rfl, rfl⟩ := this
        have hE := run_eqB 0 0 0 0 0 0
        simp only [decide_true] at hE
        clear HT HF
        have hb5 := hb4.alloc hb4.size (.cells #[.int .u64 0, .int .i64 0, .int .u64 0] 27)
        go_wp2_with fail
        refine (awake_any _).mono ?_
        rintro e w8 ⟨rfl, hb12⟩
        go_wp2_with fail
        go_ret
        exact ⟨rfl, hb5.trans (hb12.mono hb5.size)⟩
      · obtain ⟨a, b, c, hl, hz, hb1, hb2⟩ := HT.out _ rfl
        simp only [Bal.mk.injEq] at hz
        obtain ⟨rfl, rfl, rfl⟩ := hz
        subst hl
        clear HT HF
        have hb5 := hb4.alloc hb4.size (.cells #[.int .u64 z1, .int .i64 z2, .int .u64 z3] 27)
        go_wp2_with fail
        refine (puts_any _ _ _ _ (by omega) (by omega)).mono ?_
        rintro e w4 ⟨g2, rfl, hkg, hgl2, hb6⟩
        have hb7 := hb5.trans (hb6.mono hb5.size)
        rw [show max z2 0 = z2 by omega] at hkg
        obtain ⟨b', o', rfl, hB, hcl⟩ := (H1.out.below hb7).lit (by simp)
        have z0 := hcl 0 _ rfl
        have t1 := hcl 1 _ rfl
        have t2 := hcl 2 _ rfl
        rw [Nat.add_zero] at z0
        clear hb5 hb6 hcl
        go_wp2_with fail
        refine Seg.region [(34, true)] (by kernel_rfl) (by kernel_rfl) ?_
        intro ι _ f hf hx
        simp only [List.take_succ_cons, List.take_zero, List.drop_succ_cons, List.drop_zero]
        have hf := fun i => below_of_drew (hf i)
        have hbw : b' < w4.heap.size := by have := hb7.size; omega
        have e0 : ∀ i, (f i).cell? ⟨b', o', none⟩ = some (.int .u64 z1) := fun i => ((hf i).cell (p := ⟨b', o', none⟩) hbw).trans z0
        have e1 : ∀ i, (f i).cell? ⟨b', o' + 1, none⟩ = some (.int .u64 z2) := fun i => ((hf i).cell (p := ⟨b', o' + 1, none⟩) hbw).trans t1
        have e2 : ∀ i, (f i).cell? ⟨b', o' + 2, none⟩ = some (.int .u64 z3) := fun i => ((hf i).cell (p := ⟨b', o' + 2, none⟩) hbw).trans t2
        obtain ⟨a0, a1, a2⟩ := blk_cells3 (fun i => hkg.below (hf i) hkg.lt)
        have HB := Lib.hid (fun i => hb7.trans ((hf i).mono hb7.size))
        clear hb7 hkg hf z0 t1 t2
        repeat (go_big_quiet_step ((go_at_call 10; exact (awake_any _).mono fun _ _ hh => ⟨hh.1, hx _ _ hh.2⟩)))
        refine wpQuiet_nil ?_
        intro i
        have hBi := HB.out i
        simp only [Seg.Walk]
        go_wp2_with fail
        go_ret
        exact ⟨rfl, hBi⟩
  · clear h1 hp
    go_enter Try.func8, Try.ntmps8
    go_wp2_with fail
    refine (awake_any _).mono ?_
    rintro e w8 ⟨rfl, hb12⟩
    go_wp2_with fail
    go_ret
    exact ⟨rfl, ((Below.refl _ _).alloc (Nat.le_refl _) _).trans (hb12.mono (by simp))⟩
end Go.Proofs.Ytpmkpkfkimcpjaa
