/- BallotNext: for every life, every ballots that were seen and every nodes, the law's call returns true and leaves what was there as it was. -/
import Derived.Test.YtpmkpkfkimcpjaaAwake
import Derived.Test.YtpmkpkfkimcpjaaMore
namespace Go.Proofs.Ytpmkpkfkimcpjaa
open Go.RowKit

theorem info27 : (Try.prog.info? 27).map (fun i => (i.zero, i.size, i.bytes)) = some (some (.agg #[.int .u64 0, .int .i64 0, .int .u64 0]), 3, 24) := by kernel_rfl
theorem bal_one (l : List Bal) : ∀ u ∈ l.flatMap Bal.cs, u.oneCell' = true := by
  intro u hu
  obtain ⟨b, _, hb⟩ := List.mem_flatMap.1 hu
  simp only [Bal.cs, List.mem_cons, List.not_mem_nil, or_false] at hb
  rcases hb with rfl | rfl | rfl <;> rfl

set_option maxHeartbeats 1000000 in
theorem lawNext_any (node inc n : Int) (l : List Bal) (A : Option Addr) (cap : Nat) (xs : List Int) (A2 : Option Addr) (cap2 : Nat) (w : World)
    (h1 : Reads w w.heap.size 3 A l.length (l.flatMap Bal.cs)) (h2 : Reads w w.heap.size 1 A2 xs.length (xs.map (.int .i64))) (hok : ∀ b ∈ l, b.ok)
    (hn1 : -9223372036854775808 ≤ n) (hn2 : n ≤ 9223372036854775807) (hl1 : l.length ≤ maxLen) (hl2 : xs.length ≤ maxLen) :
    Calls Try.prog 3 #[.int .i64 node, .int .u64 inc, .slice A l.length cap, .int .i64 n, .slice A2 xs.length cap2] w fun e w' => e = .returned (.bool true) ∧ Below w.heap.size w w' := by
  obtain ⟨i0, hi, hz0, hz1, hz2⟩ := info_parts info27
  obtain ⟨i1, ji, jz0, jz1, jz2⟩ := info_parts info3
  unfold maxLen at hl1 hl2
  by_cases hc : l.length ≤ 1000 ∧ xs.length ≤ 300
  · obtain ⟨hc1, hc2⟩ := hc
    have H1 := Lib.hid h1
    have H2 := Lib.hid h2
    have HO := Lib.hid hok
    clear h1 h2 hok
    go_enter Try.func3, Try.ntmps3
    go_wp2_with (at_builtin; refine wpList_append_any _ rfl (.tmp 27) (.tmp 28) 23 rfl w.heap.size 27 i0 _ 3 24 Try.underlying23 hi hz0 hz1 hz2 rfl (by decide) (.slice (some ⟨w.heap.size, 0, none⟩) 0 0) 0 [] rfl (World.ownsRow_made w #[] 0 (Nat.le_refl _) (Nat.zero_le _) rfl) w.heap.size A l.length cap (l.flatMap Bal.cs) rfl (H1.out.alloc (Nat.le_refl _) _) (bal_one l) ?c1 ?c2 ?c3 ?_)
    case c1 => simp only [maxLen]; omega
    case c2 => omega
    case c3 => simp
    intro v1 w1 hown hg hat
    have hb : Below w.heap.size w w1 := ((Below.refl _ _).alloc (Nat.le_refl _) _).grown hg (by simp) (fun k hk => by simp [Value.ownBlock] at hk; omega)
    obtain ⟨A3, c3, rfl, _, _, hr3⟩ := own_reads hown
    have HR3 := Lib.hid hr3
    clear hown hg hat hr3
    have C1 := next_any node inc l A3 c3 w1 HR3.out (by omega) HO.out
    have C2 := fun W R => rnext_any node inc l A cap W R (by omega) HO.out
    obtain ⟨⟨⟨xr, xn, xi⟩, xe⟩, hX⟩ : ∃ X, nextB node inc l = X := ⟨_, rfl⟩
    rw [hX] at C1 C2
    have HC1 := Lib.hid C1
    have HC2 := Lib.hid C2
    clear C1 C2 hX
    go_wp2_with fail
    refine HC1.out.mono ?_
    rintro e w2 ⟨rfl, hb2⟩
    have hbb := hb.trans (hb2.mono hb.size)
    clear hb2 HR3 HC1
    go_wp2_with fail
    refine (HC2.out _ (((H1.out.below hbb).alloc hbb.size _).more (by have := hbb.size; simp; omega))).mono ?_
    rintro e w3 ⟨rfl, hb3⟩
    have hk := (Blk.new w2 27 #[.int .u64 xr, .int .i64 xn, .int .u64 xi]).below hb3 (by simp)
    have hlt3 := hk.lt
    have d0 := hk.cell 0
    have d1 := hk.cell 1
    have d2 := hk.cell 2
    simp at d0 d1 d2
    have hb4 := (hbb.alloc hbb.size _).trans (hb3.mono (by have := hbb.size; simp; omega))
    clear hk hb3 HC2 hbb hb
    go_wp2_with fail
    have hb5 := hb4.alloc hb4.size (.cells #[Value.int IntKind.u64 xr, Value.int IntKind.i64 xn, Value.int IntKind.u64 xi] 27)
    have H25 := Lib.hid ((H2.out.below hb5).more hb5.size)
    generalize w3.alloc (.cells #[Value.int IntKind.u64 xr, Value.int IntKind.i64 xn, Value.int IntKind.u64 xi] 27) = w4 at hb5 H25 ⊢
    clear d0 d1 d2 hlt3 hb4
    refine (majority_any n _ hn1 hn2).mono ?_
    rintro e w' ⟨rfl, rfl⟩
    go_wp2_with fail
    refine (rmajority_any n _ hn1 hn2).mono ?_
    rintro e w' ⟨rfl, rfl⟩
    go_wp2_with (at_builtin; refine wpList_append_want _ rfl (.tmp 57) (.tmp 58) 24 rfl w4.heap.size 3 i1 _ 1 8 Try.underlying24 ji jz0 jz1 jz2 rfl (by decide) (.slice (some ⟨w4.heap.size, 0, none⟩) 0 0) 0 [] rfl (World.ownsRow_made w4 #[] 0 (Nat.le_refl _) (Nat.zero_le _) rfl) w4.heap.size A2 xs.length cap2 (xs.map (.int .i64)) rfl (H25.out.alloc (Nat.le_refl _) _) (int_one xs) ?e1 ?e2 ?e3 ?_)
    case e1 => simp only [maxLen]; omega
    case e2 => omega
    case e3 => simp
    intro v5 w5 hown hg hat
    have hb6 : Below w4.heap.size w4 w5 := ((Below.refl _ _).alloc (Nat.le_refl _) _).grown hg (by simp) (fun k hk => by simp [Value.ownBlock] at hk; omega)
    obtain ⟨A5, c5, rfl, _, _, hr5⟩ := own_reads hown
    have HR5 := Lib.hid hr5
    have hb7 := hb5.trans (hb6.mono hb5.size)
    clear hown hg hat hr5 hb5 hb6
    go_wp2_with fail
    refine (quorum_any n xs A5 c5 _ HR5.out (by omega) hn1 hn2).mono ?_
    rintro e w6 ⟨rfl, hb8⟩
    have hb9 := hb7.trans (hb8.mono hb7.size)
    clear hb7 hb8
    go_wp2_with fail
    refine (rquorum_any n xs A2 cap2 _ ((H2.out.below hb9).more hb9.size) (by omega) hn1 hn2).mono ?_
    rintro e w7 ⟨rfl, hb10⟩
    have hb11 := hb9.trans (hb10.mono hb9.size)
    clear hb9 hb10
    go_wp2_with fail
    refine (awake_any _).mono ?_
    rintro e w8 ⟨rfl, hb12⟩
    have hb13 := hb11.trans (hb12.mono hb11.size)
    clear hb11 hb12
    go_wp2_with fail
    go_ret
    exact ⟨rfl, hb13⟩
  · have hc2 : 1000 < l.length ∨ (l.length ≤ 1000 ∧ 300 < xs.length) := by omega
    clear h1 h2 hok hc
    rcases hc2 with hc2 | ⟨hc1, hc2⟩
    all_goals
      go_enter Try.func3, Try.ntmps3
      go_wp2_with fail
      refine (awake_any _).mono ?_
      rintro e w8 ⟨rfl, hb12⟩
      go_wp2_with fail
      go_ret
      exact ⟨rfl, hb12⟩

end Go.Proofs.Ytpmkpkfkimcpjaa
