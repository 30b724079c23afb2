/- BallotRises: for every life and every ballots that were seen the law's call returns true and leaves what was there as it was. -/
import Derived.Test.YtpmkpkfkimcpjaaLawTotal
namespace Go.Proofs.Ytpmkpkfkimcpjaa
open Go.RowKit

theorem blk_alloc2 (w : World) (o : Obj) (t : TypeId) (cs : Array Value) : Blk ((w.alloc o).alloc (.cells cs t)) (w.heap.size + 1) t cs := by
  have := Blk.new (w.alloc o) t cs
  rwa [World.size_alloc] at this

set_option maxHeartbeats 8000000 in
theorem lawRises_any (node inc : Int) (l : List Bal) (A : Option Addr) (cap : Nat) (w : World)
    (h1 : Reads w w.heap.size 3 A l.length (l.flatMap Bal.cs)) (hok : ∀ b ∈ l, b.ok) (hl1 : l.length ≤ maxLen)
    (hn : -9223372036854775808 ≤ node ∧ node ≤ 9223372036854775807) (hi : 0 ≤ inc ∧ inc ≤ 18446744073709551615) :
    Calls Try.prog 6 #[.int .i64 node, .int .u64 inc, .slice A l.length cap] w fun e w' => e = .returned (.bool true) ∧ Below w.heap.size w w' := by
  unfold maxLen at hl1
  by_cases hc : l.length ≤ 300
  · have H1 := Lib.hid h1
    have HO := Lib.hid hok
    clear h1 hok
    go_enter Try.func6, Try.ntmps6
    go_wp2_with fail
    go_loopw [8] (fun k wr => ∃ (m : Nat) (b1 b2 b3 : Int), m ≤ l.length ∧ k = .int .i64 m ∧ Bal.ok ⟨b1, b2, b3⟩ ∧ Blk wr w.heap.size 27 #[.int .u64 b1, .int .i64 b2, .int .u64 b3] ∧ Below w.heap.size w wr) (fun k _ => l.length - (intOf k).toNat)
    case atStart => exact ⟨0, 0, 0, 0, Nat.zero_le _, rfl, by unfold Bal.ok; simp, Blk.new _ _ _, (Below.refl _ _).alloc (Nat.le_refl _) _⟩
    case round =>
      obtain ⟨m, b1, b2, b3, hm, rfl, hbo, hk, hb⟩ := hrel
      by_cases hlt : m < l.length
      · obtain ⟨b, o, rfl, hB, hcl⟩ := (H1.out.below hb).elem balcs_len hlt (by omega)
        obtain ⟨⟨y1, y2, y3⟩, hy⟩ : ∃ y, l[m] = y := ⟨_, rfl⟩
        rw [hy] at hcl
        have hyo : Bal.ok ⟨y1, y2, y3⟩ := hy ▸ HO.out _ (List.getElem_mem hlt)
        have z0 := hcl 0 _ (by omega) rfl
        have z1 := hcl 1 _ (by omega) rfl
        have z2 := hcl 2 _ (by omega) rfl
        rw [Nat.add_zero] at z0
        obtain ⟨a0, a1, a2⟩ := blk_cell3 hk
        have hok2 : ∀ b ∈ [(⟨b1, b2, b3⟩ : Bal), ⟨y1, y2, y3⟩], b.ok := by
          intro b hb
          simp only [List.mem_cons, List.not_mem_nil, or_false] at hb
          rcases hb with rfl | rfl <;> assumption
        have HN := Lib.hid (next_cases node inc [⟨b1, b2, b3⟩, ⟨y1, y2, y3⟩] hok2)
        have CN := fun W g (hg : Blk W g 27 #[.int .u64 b1, .int .i64 b2, .int .u64 b3, .int .u64 y1, .int .i64 y2, .int .u64 y3]) => next_any node inc [⟨b1, b2, b3⟩, ⟨y1, y2, y3⟩] (some ⟨g, 0, none⟩) 2 W (Reads.of_blk hg rfl rfl) (by simp) hok2
        obtain ⟨⟨⟨x1, x2, x3⟩, xe⟩, hX⟩ : ∃ X, nextB node inc [⟨b1, b2, b3⟩, ⟨y1, y2, y3⟩] = X := ⟨_, rfl⟩
        rw [hX] at CN HN
        have HCN := Lib.hid CN
        have hlw := hk.lt
        have hbw : b < wr.heap.size := by omega
        have hbn : wr.heap.size ≠ b := by omega
        have hwn : wr.heap.size ≠ w.heap.size := by omega
        clear hy hcl hX CN
        go_upto_region 7 with fail
        go_cut [9, 10] from 16 to 84 (fun p e wc => ∃ g : Nat, p = .pointer (some ⟨g, 0, none⟩) ∧ w.heap.size < g ∧ e = .int .i64 xe ∧ Blk wc g 27 #[.int .u64 x1, .int .i64 x2, .int .u64 x3] ∧ Below wr.heap.size wr wc)
        case first =>
          go_region_with ((go_at_call 11; refine (HCN.out _ _ (by first | (with_reducible exact (Blk.new _ _ _).drew) | (with_reducible exact (blk_alloc2 _ _ _ _).drew) | (with_reducible exact ((Blk.new _ _ _).alloc _).drew))).mono ?_; rintro e w1 ⟨rfl, hb1⟩; have hz1 := hb1.size; obtain ⟨hc1, hf1⟩ := bcell hb1))
          all_goals
            have hA : Below wr.heap.size wr w1 := by
              refine Below.trans ?_ (hb1.mono ?_)
              · refine Below.drew ?_
                first
                  | with_reducible exact (Below.refl _ _).alloc (Nat.le_refl _) _
                  | exact ((Below.refl _ _).alloc (Nat.le_refl _) _).alloc (by simp) _
              · simp
                try omega
            have hsA := hA.size
            go_wp2_with fail
            go_meet
            refine ⟨_, rfl, by omega, rfl, ?_, ?_⟩
            · first
                | with_reducible exact Blk.new _ _ _
                | (refine blk_set3 (x0 := .int .u64 0) (x1 := .int .i64 0) (x2 := .int .u64 0) (Blk.below ?_ hb1 (by simp; try omega)) _ _ _
                   first
                     | with_reducible exact (blk_alloc2 _ _ _ _).drew
                     | with_reducible exact ((Blk.new _ _ _).alloc _).drew)
            · first
                | with_reducible exact hA.alloc hsA _
                | with_reducible exact below_set3 hA (by omega) _ _ _
        case rest =>
          obtain ⟨g, rfl, hg, rfl, hk9, hbc⟩ := hcut
          have hb2 := hb.trans (hbc.mono hb.size)
          have hk7 := hk.below hbc hlw
          have hlg := hk9.lt
          have hcB := hbc.size
          have t0 : wc.cell? ⟨b, o + m * 3, none⟩ = some (.int .u64 y1) := (hbc.cell (p := ⟨b, o + m * 3, none⟩) hbw).trans z0
          have t1 : wc.cell? ⟨b, o + m * 3 + 1, none⟩ = some (.int .i64 y2) := (hbc.cell (p := ⟨b, o + m * 3 + 1, none⟩) hbw).trans z1
          have t2 : wc.cell? ⟨b, o + m * 3 + 2, none⟩ = some (.int .u64 y3) := (hbc.cell (p := ⟨b, o + m * 3 + 2, none⟩) hbw).trans z2
          clear z0 z1 z2 a0 a1 a2 HCN hk hb hbc hbn hwn
          obtain ⟨a0, a1, a2⟩ := blk_cell3 hk7
          obtain ⟨c0, c1, c2⟩ := blk_cell3 hk9
          rcases HN.out with ⟨hX, _⟩ | ⟨hX, hmx⟩ | ⟨R, hX, hR1, hR2, hlf, hR⟩
          · have hxe : xe = 1 := (Prod.mk.inj hX).2
            subst hxe
            clear hX HN
            go_wp2_with fail
            refine (awake_any _).mono ?_
            rintro e w8 ⟨rfl, hb12⟩
            go_wp2_with fail
            go_ret
            exact ⟨rfl, hb2.trans (hb12.mono hb2.size)⟩
          · have hxe : xe = 3 := (Prod.mk.inj hX).2
            subst hxe
            clear hX HN
            have hmx2 : 4611686018427387903 ≤ y1 ∨ (y1 < 4611686018427387903 ∧ 4611686018427387903 ≤ b1) := by
              unfold maxR at hmx
              simp only [List.foldl_cons, List.foldl_nil] at hmx
              have h1 := hbo.1
              simp only [] at h1
              repeat' (split at hmx)
              all_goals omega
            clear hmx
            rcases hmx2 with hy4 | ⟨hy4, hy5⟩
            all_goals
              go_wp2_with fail
              refine (awake_any _).mono ?_
              rintro e w8 ⟨rfl, hb12⟩
              go_wp2_with fail
              go_ret
              exact ⟨rfl, hb2.trans (hb12.mono hb2.size)⟩
          · simp only [Prod.mk.injEq, Bal.mk.injEq] at hX
            obtain ⟨⟨rfl, rfl, rfl⟩, rfl⟩ := hX
            have n1 : cmpB ⟨b1, b2, b3⟩ ⟨x1, x2, x3⟩ = -1 := cmp_lt_round _ _ (hR ⟨b1, b2, b3⟩ (by simp))
            have n2 : cmpB ⟨y1, y2, y3⟩ ⟨x1, x2, x3⟩ = -1 := cmp_lt_round _ _ (hR ⟨y1, y2, y3⟩ (by simp))
            have m0 : mayB ⟨x1, x2, x3⟩ = true := by unfold mayB; simp [hlf, hR1, hR2]
            have hxo : Bal.ok ⟨x1, x2, x3⟩ := by unfold Bal.ok; simp only []; omega
            clear hlf hR hR1 hR2 HN
            go_wp2_with fail
            refine Seg.region [(30, true)] (by kernel_rfl) (by kernel_rfl) ?_
            intro ι _ f hf hx
            simp only [List.take_succ_cons, List.take_zero, List.drop_succ_cons, List.drop_zero]
            have hf := fun i => below_of_drew (hf i)
            have e0 : ∀ i, (f i).cell? ⟨b, o + m * 3, none⟩ = some (.int .u64 y1) := fun i => ((hf i).cell (p := ⟨b, o + m * 3, none⟩) (by simp only []; omega)).trans t0
            have e1 : ∀ i, (f i).cell? ⟨b, o + m * 3 + 1, none⟩ = some (.int .i64 y2) := fun i => ((hf i).cell (p := ⟨b, o + m * 3 + 1, none⟩) (by simp only []; omega)).trans t1
            have e2 : ∀ i, (f i).cell? ⟨b, o + m * 3 + 2, none⟩ = some (.int .u64 y3) := fun i => ((hf i).cell (p := ⟨b, o + m * 3 + 2, none⟩) (by simp only []; omega)).trans t2
            obtain ⟨p0, p1, p2⟩ := blk_cells3 (fun i => hk7.below (hf i) hk7.lt)
            obtain ⟨q0, q1, q2⟩ := blk_cells3 (fun i => hk9.below (hf i) hk9.lt)
            have HB := Lib.hid (fun i => hb2.trans ((hf i).mono hb2.size))
            have HK := Lib.hid (fun i => And.intro (hk7.below (hf i) hk7.lt) (hk9.below (hf i) hk9.lt))
            clear hb2 hk7 hk9 hf t0 t1 t2 a0 a1 a2 c0 c1 c2
            repeat (go_big_quiet_step (first
              | (go_at_call 17; exact (cmp_any _ _ _ _ _ _ _).mono fun _ _ hh => ⟨hh.1, hx _ _ hh.2⟩)
              | (go_at_call 18; exact (may_any _ _ _ _).mono fun _ _ hh => ⟨hh.1, hx _ _ hh.2⟩)))
            refine wpQuiet_nil ?_
            intro i
            have hBi := HB.out i
            have hKi := HK.out i
            have j0 := p0 i
            have j1 := p1 i
            have j2 := p2 i
            have r0 := q0 i
            have r1 := q1 i
            have r2 := q2 i
            have hfz := hKi.1.frozen
            simp only [Seg.Walk]
            generalize f i = W at hBi hKi j0 j1 j2 r0 r1 r2 hfz ⊢
            clear p0 p1 p2 q0 q1 q2 e0 e1 e2 hx HB HK
            go_wp2_with fail
            go_roundw
            case rel => exact ⟨m + 1, x1, x2, x3, by omega, by go_num, hxo, blk_set3 hKi.1 _ _ _, below_set3 hBi (Nat.le_refl _) _ _ _⟩
            case measure => simp [intOf]; omega
      · go_wp2_with fail
        refine (awake_any _).mono ?_
        rintro e w8 ⟨rfl, hb12⟩
        go_wp2_with fail
        go_ret
        exact ⟨rfl, hb.trans (hb12.mono hb.size)⟩
  · clear h1 hok
    go_enter Try.func6, Try.ntmps6
    go_wp2_with fail
    refine (awake_any _).mono ?_
    rintro e w8 ⟨rfl, hb12⟩
    go_wp2_with fail
    go_ret
    exact ⟨rfl, hb12⟩
end Go.Proofs.Ytpmkpkfkimcpjaa
