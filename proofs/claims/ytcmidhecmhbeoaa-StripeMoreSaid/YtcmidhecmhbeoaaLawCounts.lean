/- StripeCounts: the law is true at all arguments. -/
import Derived.Test.YtcmidhecmhbeoaaAwk
import Derived.Test.YtcmidhecmhbeoaaWalkM
namespace Go.Proofs.Ytcmidhecmhbeoaa
open Go.RowKit

theorem longB_two {k : Nat} {W : Int} {A1 A2 : Option Addr} {k1 k2 c1 c2 : Nat} (h : longB k W [⟨A1, k1, c1⟩, ⟨A2, k2, c2⟩] = false) : k ≤ 30 ∧ W ≤ 1000 ∧ k1 ≤ 60 ∧ k2 ≤ 60 := by
  simp [longB] at h
  omega

set_option maxRecDepth 100000 in
set_option maxHeartbeats 4000000 in
theorem lawCounts_any (first W a : Int) (l s fr : List Pl) (A A1 A2 : Option Addr) (c c1 c2 : Nat) (w : World) (h : PR w w.heap.size A l) (h1 : PR w w.heap.size A1 s) (h2 : PR w w.heap.size A2 fr)
    (hc1 : s.length ≤ c1) (hm1 : s.length ≤ maxLen) (hm2 : fr.length ≤ maxLen) :
    Calls Try.prog 7 #[.agg #[.int .u64 first, .slice A l.length c], .slice A1 s.length c1, .int .i64 W, .int .i64 a, .slice A2 fr.length c2] w fun e w' => e = .returned (.bool true) ∧ Below w.heap.size w w' := by
  have H := Lib.hid h
  have H1 := Lib.hid h1
  have H2 := Lib.hid h2
  clear h h1 h2
  obtain ⟨W0, hW0⟩ : ∃ W0, W0 = ((w.alloc (.cells #[.int .u64 first, .slice A l.length c] 25)).alloc (.cells #[.int .u64 first, .slice A l.length c] 25)).alloc (.cells #[.slice A1 s.length c1, .slice A2 fr.length c2] 23) := ⟨_, rfl⟩
  have hb0 : Below w.heap.size w W0 := by rw [hW0]; exact (((Below.refl _ _).alloc (Nat.le_refl _) _).alloc (by simp) _).alloc (by simp; omega) _
  have hF : Blk W0 w.heap.size 25 #[.int .u64 first, .slice A l.length c] := by rw [hW0]; exact ((Blk.new _ _ _).alloc _).alloc _
  have hG : Blk W0 (w.heap.size + 1) 25 #[.int .u64 first, .slice A l.length c] := by rw [hW0]; exact (blk_newAt (by simp) _ _).alloc _
  have hR : Blk W0 (w.heap.size + 1 + 1) 23 #[.slice A1 s.length c1, .slice A2 fr.length c2] := by rw [hW0]; exact blk_newAt (by simp) _ _
  have CL : Hid (Calls Try.prog 10 #[.slice (some ⟨w.heap.size + 1, 0, none⟩) 1 1, .int .i64 W, .slice (some ⟨w.heap.size + 1 + 1, 0, none⟩) 2 2] W0 fun e w' => e = .returned (.bool (longB l.length W [⟨A1, s.length, c1⟩, ⟨A2, fr.length, c2⟩])) ∧ W0 = w') :=
    Lib.hid (long_any first W A _ l.length c _ 0 1 2 [⟨A1, s.length, c1⟩, ⟨A2, fr.length, c2⟩] _ W0 (FC.of_blk hG) (Reads.of_blk hR rfl rfl) (by simp) (by simp; omega))
  have HW0 := Lib.hid hW0
  have hFl := hF.lt
  clear hG hR
  by_cases hs : longB l.length W [⟨A1, s.length, c1⟩, ⟨A2, fr.length, c2⟩] = false ∧ -1000 ≤ a ∧ a ≤ 1000 ∧ -1000 ≤ W
  · obtain ⟨hs1, ha1, ha2, hw1⟩ := hs
    obtain ⟨hl, hw2, hsl, hfl⟩ := longB_two hs1
    rw [hs1] at CL
    clear hs1
    have d1 : decide (a < -1000) = false := decide_eq_false (by omega)
    have d2 : decide (1000 < a) = false := decide_eq_false (by omega)
    have d3 : decide (W < -1000) = false := decide_eq_false (by omega)
    have HF := Lib.hid hF
    clear hF
    go_enter Try.func7, Try.ntmps7
    go_wp2_with fail
    rw [← HW0.out]
    clear hW0
    refine CL.out.mono ?_
    rintro e w1 ⟨rfl, rfl⟩
    obtain ⟨i0, hi, hz0, hz1, hz2⟩ := info_parts info37
    go_wp2_with (at_builtin; refine wpList_append_lit _ rfl (.tmp 32) (.tmp 33) 23 rfl 37 i0 _ 2 16 Try.underlying23 hi hz0 hz1 hz2 rfl (by decide) W0.heap.size W0.heap.size rfl (Blk.new W0 37 #[]) (Nat.le_refl _) w.heap.size A2 fr.length c2 (fr.flatMap Pl.cs) rfl ((H2.out.below hb0).alloc hb0.size _) (pl_one fr) ?c1 ?c2 ?_)
    case c1 => simp only [maxLen]; omega
    case c2 => omega
    intro A' c' w2 hcc hcm hown hb2
    have hb12 : Below W0.heap.size W0 w2 := ((Below.refl _ _).alloc (Nat.le_refl _) _).trans (hb2.mono (by simp))
    have hbw2 := hb0.trans (hb12.mono hb0.size)
    have HO := Lib.hid (Reads.of_own hown)
    have HF2 := Lib.hid (HF.out.below hb12 hFl)
    have hF2l := HF2.out.lt
    clear hown hb2 d1 d2 d3 CL HW0 hi hz0 hz1 hz2
    go_wp2_with fail
    have P0 := (H.out.below hbw2).more hbw2.size
    have P1 := (H1.out.below hbw2).more hbw2.size
    have P2 := (H2.out.below hbw2).more hbw2.size
    obtain ⟨b1, hb1⟩ : ∃ b, ackedB s a fr = b := ⟨_, rfl⟩
    obtain ⟨b2, hb2⟩ : ∃ b, missB s W a fr = b := ⟨_, rfl⟩
    obtain ⟨b3, hb3⟩ : ∃ b, coverB l W a fr = b := ⟨_, rfl⟩
    have CA : Hid (∀ W', Below w2.heap.size w2 W' → Calls Try.prog 22 #[.slice A1 s.length c1, .int .i64 a, .slice A' fr.length c'] W' fun e w' => e = .returned (.bool b1) ∧ Below W'.heap.size W' w') :=
      Lib.hid fun W' hb => by rw [← hb1]; exact acked_any s fr a A1 A' c1 c' _ W' (P1.below hb) (HO.out.below hb) hb.size hc1 (by omega) (by omega)
    have CB : Hid (∀ W', Below w2.heap.size w2 W' → Calls Try.prog 23 #[.slice A1 s.length c1, .int .i64 a, .slice A2 fr.length c2] W' fun e w' => e = .returned (.bool b1) ∧ Below W'.heap.size W' w') :=
      Lib.hid fun W' hb => by rw [← hb1]; exact racked_any s fr a A1 A2 c1 c2 _ W' (P1.below hb) (P2.below hb) hb.size (by omega) (by omega)
    have CC : Hid (∀ W', Below w2.heap.size w2 W' → Calls Try.prog 24 #[.slice A1 s.length c1, .int .i64 W, .int .i64 a, .slice A' fr.length c'] W' fun e w' => e = .returned (.bool b2) ∧ Below W'.heap.size W' w') :=
      Lib.hid fun W' hb => by rw [← hb2]; exact missing_any s fr W a A1 A' c1 c' _ W' (P1.below hb) (HO.out.below hb) hb.size hc1 (by omega) (by omega) (by omega) (by omega) (by omega) (by omega)
    have CD : Hid (∀ W', Below w2.heap.size w2 W' → Calls Try.prog 25 #[.slice A1 s.length c1, .int .i64 W, .int .i64 a, .slice A2 fr.length c2] W' fun e w' => e = .returned (.bool b2) ∧ Below W'.heap.size W' w') :=
      Lib.hid fun W' hb => by rw [← hb2]; exact rmissing_any s fr W a A1 A2 c1 c2 _ W' (P1.below hb) (P2.below hb) hb.size (by omega) (by omega) (by omega) (by omega) (by omega) (by omega)
    have CE : Hid (∀ W', Below w2.heap.size w2 W' → Calls Try.prog 20 #[.agg #[.int .u64 first, .slice A l.length c], .int .i64 W, .int .i64 a, .slice A' fr.length c'] W' fun e w' => e = .returned (.bool b3) ∧ Below W'.heap.size W' w') :=
      Lib.hid fun W' hb => by rw [← hb3]; exact covered_any first W a l fr A A' c c' _ W' (P0.below hb) (HO.out.below hb) hb.size (by omega) (by omega) (by omega) (by omega) (by omega) (by omega)
    have CF : Hid (∀ W', Below w2.heap.size w2 W' → Calls Try.prog 26 #[.agg #[.int .u64 first, .slice A l.length c], .int .i64 W, .int .i64 a, .slice A2 fr.length c2] W' fun e w' => e = .returned (.bool b3) ∧ Below W'.heap.size W' w') :=
      Lib.hid fun W' hb => by rw [← hb3]; exact rcovered_any first W a l fr A A2 c c2 _ W' (P0.below hb) (P2.below hb) hb.size (by omega) (by omega) (by omega) (by omega) (by omega) (by omega)
    have e1 : (b1 == b1) = true := by simp
    have e2 : (b2 == b2) = true := by simp
    have e3 : (b3 == b3) = true := by simp
    clear hb1 hb2 hb3 P0 P1 P2
    refine Seg.region [(38, true), (1, false)] (by kernel_rfl) (by kernel_rfl) ?_
    intro ι _ f hf hx
    simp only [List.take_succ_cons, List.take_zero, List.drop_succ_cons, List.drop_zero]
    have hf := fun i => below_of_drew (hf i)
    have c0 : ∀ i, (f i).cell? ⟨w.heap.size, 0, none⟩ = some (.int .u64 first) := fun i => (HF2.out.below (hf i) hF2l).cell 0
    have c1 : ∀ i, (f i).cell? ⟨w.heap.size, 1, none⟩ = some (.slice A l.length c) := fun i => (HF2.out.below (hf i) hF2l).cell 1
    have HFB := Lib.hid hf
    clear hf
    repeat (go_big_quiet_step (first
      | (go_at_call 22; exact (CA.out _ (HFB.out _)).mono fun _ _ hh => ⟨hh.1, hx _ _ hh.2⟩)
      | (go_at_call 23; exact (CB.out _ (HFB.out _)).mono fun _ _ hh => ⟨hh.1, hx _ _ hh.2⟩)
      | (go_at_call 24; exact (CC.out _ (HFB.out _)).mono fun _ _ hh => ⟨hh.1, hx _ _ hh.2⟩)
      | (go_at_call 25; exact (CD.out _ (HFB.out _)).mono fun _ _ hh => ⟨hh.1, hx _ _ hh.2⟩)
      | (go_at_call 20; exact (CE.out _ (HFB.out _)).mono fun _ _ hh => ⟨hh.1, hx _ _ hh.2⟩)
      | (go_at_call 26; exact (CF.out _ (HFB.out _)).mono fun _ _ hh => ⟨hh.1, hx _ _ hh.2⟩)
      | (go_at_call 11; exact (awake_any _).mono fun _ _ hh => ⟨hh.1, hx _ _ hh.2⟩)))
    refine wpQuiet_nil ?_
    intro i
    have hBi := hbw2.trans ((HFB.out i).mono hbw2.size)
    simp only [Seg.Walk]
    go_wp2_with fail
    simp only [Seg.thenK]
    go_wp2_with fail
    go_ret
    exact ⟨rfl, hBi⟩
  · have hend : ∀ w2, Below W0.heap.size W0 w2 → Below w.heap.size w w2 := fun w2 hb => hb0.trans (hb.mono hb0.size)
    have HE := Lib.hid hend
    clear hF hend
    cases hlb : longB l.length W [⟨A1, s.length, c1⟩, ⟨A2, fr.length, c2⟩] with
    | true =>
      rw [hlb] at CL
      clear hlb hs
      go_enter Try.func7, Try.ntmps7
      go_wp2_with fail
      rw [← HW0.out]
      clear hW0
      refine CL.out.mono ?_
      rintro e w1 ⟨rfl, rfl⟩
      go_wp2_with fail
      refine (awake_any _).mono ?_
      rintro e w8 ⟨rfl, hb12⟩
      go_wp2_with fail
      go_ret
      exact ⟨rfl, HE.out _ hb12⟩
    | false =>
      rw [hlb] at CL
      rw [hlb] at hs
      clear hlb
      by_cases ha1 : a < -1000
      · clear hs
        have d1 : decide (a < -1000) = true := decide_eq_true ha1
        go_enter Try.func7, Try.ntmps7
        go_wp2_with fail
        rw [← HW0.out]
        clear hW0
        refine CL.out.mono ?_
        rintro e w1 ⟨rfl, rfl⟩
        go_wp2_with fail
        refine (awake_any _).mono ?_
        rintro e w8 ⟨rfl, hb12⟩
        go_wp2_with fail
        go_ret
        exact ⟨rfl, HE.out _ hb12⟩
      · have d1 : decide (a < -1000) = false := decide_eq_false ha1
        by_cases ha2 : 1000 < a
        · clear hs
          have d2 : decide (1000 < a) = true := decide_eq_true ha2
          go_enter Try.func7, Try.ntmps7
          go_wp2_with fail
          rw [← HW0.out]
          clear hW0
          refine CL.out.mono ?_
          rintro e w1 ⟨rfl, rfl⟩
          go_wp2_with fail
          refine (awake_any _).mono ?_
          rintro e w8 ⟨rfl, hb12⟩
          go_wp2_with fail
          go_ret
          exact ⟨rfl, HE.out _ hb12⟩
        · have hw1 : W < -1000 := by
            refine Classical.byContradiction fun hh => hs ⟨rfl, by omega, by omega, by omega⟩
          have d2 : decide (1000 < a) = false := decide_eq_false ha2
          have d3 : decide (W < -1000) = true := decide_eq_true hw1
          clear hs
          go_enter Try.func7, Try.ntmps7
          go_wp2_with fail
          rw [← HW0.out]
          clear hW0
          refine CL.out.mono ?_
          rintro e w1 ⟨rfl, rfl⟩
          go_wp2_with fail
          refine (awake_any _).mono ?_
          rintro e w8 ⟨rfl, hb12⟩
          go_wp2_with fail
          go_ret
          exact ⟨rfl, HE.out _ hb12⟩
end Go.Proofs.Ytcmidhecmhbeoaa
