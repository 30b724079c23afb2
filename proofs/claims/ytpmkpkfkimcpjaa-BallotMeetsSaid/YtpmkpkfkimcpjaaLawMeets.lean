/- BallotMeets: for every number of nodes and every two rows of nodes the law's call returns true and leaves what was there as it was. -/
import Derived.Test.YtpmkpkfkimcpjaaAwake
import Derived.Test.YtpmkpkfkimcpjaaMore
import Derived.Test.YtpmkpkfkimcpjaaPlainM
namespace Go.Proofs.Ytpmkpkfkimcpjaa
open Go.RowKit

set_option maxHeartbeats 2000000 in
theorem lawMeets_any (n more : Int) (a : List Int) (A : Option Addr) (cap : Nat) (c : List Int) (A2 : Option Addr) (cap2 : Nat) (w : World)
    (h1 : Reads w w.heap.size 1 A a.length (a.map (.int .i64))) (h2 : Reads w w.heap.size 1 A2 c.length (c.map (.int .i64)))
    (hn1 : -9223372036854775808 ≤ n) (hn2 : n ≤ 9223372036854775807) (hl1 : a.length ≤ maxLen) (hl2 : c.length ≤ maxLen) :
    Calls Try.prog 4 #[.int .i64 n, .slice A a.length cap, .slice A2 c.length cap2, .int .i64 more] w fun e w' => e = .returned (.bool true) ∧ Below w.heap.size w w' := by
  obtain ⟨i1, ji, jz0, jz1, jz2⟩ := info_parts info3
  unfold maxLen at hl1 hl2
  by_cases hc : a.length ≤ 100 ∧ c.length ≤ 100
  · obtain ⟨hc1, hc2⟩ := hc
    have H1 := Lib.hid h1
    have H2 := Lib.hid h2
    clear h1 h2
    have CQ := Lib.hid (quorum_any n a A cap w H1.out (by omega) hn1 hn2)
    cases hq : quorumB n a
    · go_enter Try.func4, Try.ntmps4
      go_wp2_with fail
      refine CQ.out.mono ?_
      rw [hq]
      rintro e w1 ⟨rfl, hb1⟩
      go_wp2_with fail
      refine (awake_any _).mono ?_
      rintro e w8 ⟨rfl, hb2⟩
      go_wp2_with fail
      go_ret
      exact ⟨rfl, hb1.trans (hb2.mono hb1.size)⟩
    · have HQ := Lib.hid hq
      clear hq
      go_enter Try.func4, Try.ntmps4
      go_wp2_with fail
      refine CQ.out.mono ?_
      rw [HQ.out]
      rintro e w1 ⟨rfl, hb1⟩
      go_wp2_with (at_builtin; refine wpList_append_any _ rfl (.tmp 26) (.tmp 27) 24 rfl w1.heap.size 3 i1 _ 1 8 Try.underlying24 ji jz0 jz1 jz2 rfl (by decide) (.slice (some ⟨w1.heap.size, 0, none⟩) 0 0) 0 [] rfl (World.ownsRow_made w1 #[] 0 (Nat.le_refl _) (Nat.zero_le _) rfl) w1.heap.size A a.length cap (a.map (.int .i64)) rfl (((H1.out.below hb1).more hb1.size).alloc (Nat.le_refl _) _) (int_one a) ?e1 ?e2 ?e3 ?_)
      case e1 => simp only [maxLen]; omega
      case e2 => omega
      case e3 => simp
      intro v2 w2 hown hg hat
      obtain ⟨hb2, hlt2, A3, c3, rfl, hc3, hm3, _, HO0⟩ := lit_post hown hg
      have HO := Lib.hid HO0
      clear hown hg hat HO0
      go_wp2_with (at_builtin; refine wpList_append_any _ rfl (.tmp 28) (.tmp 30) 24 rfl w1.heap.size 3 i1 _ 1 8 Try.underlying24 ji jz0 jz1 jz2 rfl (by decide) (.slice A3 a.length c3) a.length (a.map (.int .i64)) rfl (HO.out.alloc _) _ (some ⟨w2.heap.size, 0, none⟩) 1 1 ([more].map (.int .i64)) rfl (Reads.of_blk (Blk.new _ _ _) rfl rfl) (int_one [more]) ?f1 ?f2 ?f3 ?_)
      case f1 => simp only [maxLen]; omega
      case f2 => omega
      case f3 => simp; omega
      intro v4 w4 hown hg hat
      obtain ⟨hb4, hlt4, A4, c4, rfl, hc4, hm4, HR4, _⟩ := app_post HO.out hown hg (by omega)
      have hb5 := (hb1.trans (hb2.mono hb1.size)).trans (hb4.mono hb1.size)
      have CQ4 := Lib.hid (quorum_any n (a ++ [more]) A4 c4 w4 (by simpa using HR4) (by simp; omega) hn1 hn2)
      rw [quorum_more n a more HQ.out] at CQ4
      have CQ4' : Hid (Calls Try.prog 15 #[.int .i64 n, .slice A4 (a.length + 1) c4] w4 fun e w' => e = .returned (.bool true) ∧ Below w4.heap.size w4 w') := by
        have := CQ4.out; rw [List.length_append] at this; exact this
      clear hown hg hat HR4 hb1 hb2 hb4 CQ4 HO
      go_wp2_with fail
      refine CQ4'.out.mono ?_
      rintro e w5 ⟨rfl, hb6⟩
      have hb7 := hb5.trans (hb6.mono hb5.size)
      clear hb5 hb6 CQ4'
      have CQ5 := Lib.hid (quorum_any n c A2 cap2 w5 ((H2.out.below hb7).more hb7.size) (by omega) hn1 hn2)
      cases hq : quorumB n c
      · go_wp2_with fail
        refine CQ5.out.mono ?_
        rw [hq]
        rintro e w6 ⟨rfl, hb8⟩
        have hb9 := hb7.trans (hb8.mono hb7.size)
        go_wp2_with fail
        refine (awake_any _).mono ?_
        rintro e w8 ⟨rfl, hb2⟩
        go_wp2_with fail
        go_ret
        exact ⟨rfl, hb9.trans (hb2.mono hb9.size)⟩
      · have HQ2 := Lib.hid hq
        clear hq
        go_wp2_with fail
        refine CQ5.out.mono ?_
        rw [HQ2.out]
        rintro e w6 ⟨rfl, hb8⟩
        have hb9 := hb7.trans (hb8.mono hb7.size)
        clear hb7 hb8 CQ5
        go_wp2_with fail
        go_loopw [9, 10] (fun i k wr => ∃ m : Nat, m ≤ a.length ∧ i = .int .i64 m ∧ NoneYet n a c m 0 ∧ Below w.heap.size w wr) (fun i _ _ => a.length - (intOf i).toNat)
        case atStart => exact ⟨0, Nat.zero_le _, rfl, NoneYet.start n a c, hb9⟩
        case round =>
          clear hb9
          obtain ⟨m, hm, rfl, hny, hb⟩ := hrel
          have HN := Lib.hid hny
          clear hny
          by_cases hlt : m < a.length
          · go_wp2_with fail
            obtain ⟨wo, rfl⟩ : ∃ wo : World, wo = wr := ⟨_, rfl⟩
            go_loopw [10] (fun k wr => ∃ j : Nat, j ≤ c.length ∧ k = .int .i64 j ∧ NoneYet n a c m j ∧ Below w.heap.size w wr) (fun k _ => c.length - (intOf k).toNat)
            case atStart => exact ⟨0, Nat.zero_le _, rfl, HN.out, hb⟩
            case round =>
              clear hb HN
              obtain ⟨j, hj, rfl, hny, hb⟩ := hrel
              have HN := Lib.hid hny
              clear hny
              by_cases hjl : j < c.length
              · obtain ⟨b, o, rfl, hB, hcl⟩ := (H1.out.below hb).lit (by simp; omega)
                obtain ⟨b', o', rfl, hB', hcl'⟩ := (H2.out.below hb).lit (by simp; omega)
                have z0 := hcl m _ (by rw [List.getElem?_map, List.getElem?_eq_getElem hlt]; rfl)
                have z1 := hcl' j _ (by rw [List.getElem?_map, List.getElem?_eq_getElem hjl]; rfl)
                obtain ⟨x, hx⟩ : ∃ x, a[m] = x := ⟨_, rfl⟩
                obtain ⟨y, hy⟩ : ∃ y, c[j] = y := ⟨_, rfl⟩
                rw [hx] at z0
                rw [hy] at z1
                have HS := Lib.hid (HN.out.step hlt hjl)
                rw [hx, hy] at HS
                clear hcl hcl' hx hy
                by_cases hxy : x = y
                · have hxy' : (x == y) = true := by simp [hxy]
                  by_cases hx1 : 1 ≤ x
                  · by_cases hx2 : x ≤ n
                    · clear hxy HS
                      go_wp2_with fail
                      go_quiet (fail)
                      go_wp2_with fail
                      refine (awake_any _).mono ?_
                      rintro e w8 ⟨rfl, hb2⟩
                      go_wp2_with fail
                      go_ret
                      exact ⟨rfl, (below_drewN hb _).trans (hb2.mono hb.size)⟩
                    · have HS' := Lib.hid (HS.out (fun h => hx2 h.2.2))
                      have hx3 : n < x := by omega
                      have hx4 : decide (x ≤ n) = false := by simp; omega
                      clear hxy HS hx2
                      go_wp2_with fail
                      go_quiet (fail)
                      go_wp2_with fail
                      go_roundw
                      case rel => exact ⟨j + 1, by omega, by go_num, HS'.out, below_drewN hb _⟩
                      case measure => simp [intOf]; omega
                  · have HS' := Lib.hid (HS.out (fun h => hx1 h.2.1))
                    have hx3 : x < 1 := by omega
                    have hx4 : decide (1 ≤ x) = false := by simp; omega
                    clear hxy HS hx1
                    go_wp2_with fail
                    go_quiet (fail)
                    go_wp2_with fail
                    go_roundw
                    case rel => exact ⟨j + 1, by omega, by go_num, HS'.out, below_drewN hb _⟩
                    case measure => simp [intOf]; omega
                · have HS' := Lib.hid (HS.out (fun h => hxy h.1))
                  have hxy' : (x == y) = false := by simp [hxy]
                  clear hxy HS
                  go_wp2_with fail
                  go_quiet (fail)
                  go_wp2_with fail
                  go_roundw
                  case rel => exact ⟨j + 1, by omega, by go_num, HS'.out, below_drewN hb _⟩
                  case measure => simp [intOf]; omega
              · go_wp2_with fail
                go_roundw
                case rel => exact ⟨m + 1, by omega, by go_num, HN.out.next (by omega), hb⟩
                case measure => simp [intOf]; omega
          · exact (HN.out.absurd (by omega) HQ.out HQ2.out).elim
  · have hc2 : 100 < a.length ∨ (a.length ≤ 100 ∧ 100 < c.length) := by omega
    clear h1 h2 hc
    rcases hc2 with hc2 | ⟨hc1, hc2⟩
    all_goals
      go_enter Try.func4, Try.ntmps4
      go_wp2_with fail
      refine (awake_any _).mono ?_
      rintro e w8 ⟨rfl, hb12⟩
      go_wp2_with fail
      go_ret
      exact ⟨rfl, hb12⟩
end Go.Proofs.Ytpmkpkfkimcpjaa
