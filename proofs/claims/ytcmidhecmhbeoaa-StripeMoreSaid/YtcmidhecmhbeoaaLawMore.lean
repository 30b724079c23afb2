/- StripeMore: the law is true at all arguments. -/
import Derived.Test.YtcmidhecmhbeoaaAwk
import Derived.Test.YtcmidhecmhbeoaaPlainR
import Derived.Test.YtcmidhecmhbeoaaWalkP
import Derived.Test.YtcmidhecmhbeoaaLawCounts
namespace Go.Proofs.Ytcmidhecmhbeoaa
open Go.RowKit

def moreSp (A2 : Option Addr) (c2 : Nat) (fr : List Pl) (x : Pl) (H : Nat) : List (Tmp × Rg.Spec) :=
  [(34, .blk H (fun g => .slice (some ⟨g, 0, none⟩) 0 0) 37 #[]), (35, .is (.slice A2 fr.length c2)), (36, ownSpec id H fr), (37, .is (.agg #[.int .i64 x.n, .int .u64 x.s])), (38, .blk H (fun g => .slice (some ⟨g, 0, none⟩) 1 1) 37 #[.int .i64 x.n, .int .u64 x.s])]

set_option maxRecDepth 100000 in
set_option maxHeartbeats 4000000 in
theorem lawMore_any (first W a : Int) (l s fr : List Pl) (x : Pl) (A A1 A2 : Option Addr) (c c1 c2 : Nat) (w : World) (h : PR w w.heap.size A l) (h1 : PR w w.heap.size A1 s) (h2 : PR w w.heap.size A2 fr)
    (hc1 : s.length ≤ c1) (hm1 : s.length ≤ maxLen) (hm2 : fr.length ≤ maxLen) :
    Calls Try.prog 8 #[.agg #[.int .u64 first, .slice A l.length c], .slice A1 s.length c1, .int .i64 W, .int .i64 a, .slice A2 fr.length c2, .agg #[.int .i64 x.n, .int .u64 x.s]] w fun e w' => e = .returned (.bool true) ∧ Below w.heap.size w w' := by
  have H := Lib.hid h
  have H1 := Lib.hid h1
  have H2 := Lib.hid h2
  clear h h1 h2
  obtain ⟨W0, hW0⟩ : ∃ W0, W0 = (((w.alloc (.cells #[.int .u64 first, .slice A l.length c] 25)).alloc (.cells #[.int .i64 x.n, .int .u64 x.s] 37)).alloc (.cells #[.int .u64 first, .slice A l.length c] 25)).alloc (.cells #[.slice A1 s.length c1, .slice A2 fr.length c2] 23) := ⟨_, rfl⟩
  have hb0 : Below w.heap.size w W0 := by rw [hW0]; exact ((((Below.refl _ _).alloc (Nat.le_refl _) _).alloc (by simp) _).alloc (by simp; omega) _).alloc (by simp; omega) _
  have hF : Blk W0 w.heap.size 25 #[.int .u64 first, .slice A l.length c] := by rw [hW0]; exact (((Blk.new _ _ _).alloc _).alloc _).alloc _
  have hM : Blk W0 (w.heap.size + 1) 37 #[.int .i64 x.n, .int .u64 x.s] := by rw [hW0]; exact ((blk_newAt (by simp) _ _).alloc _).alloc _
  have hG : Blk W0 (w.heap.size + 1 + 1) 25 #[.int .u64 first, .slice A l.length c] := by rw [hW0]; exact (blk_newAt (by simp) _ _).alloc _
  have hR : Blk W0 (w.heap.size + 1 + 1 + 1) 23 #[.slice A1 s.length c1, .slice A2 fr.length c2] := by rw [hW0]; exact blk_newAt (by simp) _ _
  have CL : Hid (Calls Try.prog 10 #[.slice (some ⟨w.heap.size + 1 + 1, 0, none⟩) 1 1, .int .i64 W, .slice (some ⟨w.heap.size + 1 + 1 + 1, 0, none⟩) 2 2] W0 fun e w' => e = .returned (.bool (longB l.length W [⟨A1, s.length, c1⟩, ⟨A2, fr.length, c2⟩])) ∧ W0 = w') :=
    Lib.hid (long_any first W A _ l.length c _ 0 1 2 [⟨A1, s.length, c1⟩, ⟨A2, fr.length, c2⟩] _ W0 (FC.of_blk hG) (Reads.of_blk hR rfl rfl) (by simp) (by simp; omega))
  have HW0 := Lib.hid hW0
  have HF := Lib.hid hF
  have HM := Lib.hid hM
  have hFl := hF.lt
  have hMl := hM.lt
  have hend : ∀ w2, Below W0.heap.size W0 w2 → Below w.heap.size w w2 := fun w2 hb => hb0.trans (hb.mono hb0.size)
  have HE := Lib.hid hend
  clear hG hR hend hF hM hW0
  by_cases hlb : longB l.length W [⟨A1, s.length, c1⟩, ⟨A2, fr.length, c2⟩] = true
  · rw [hlb] at CL
    clear hlb
    go_enter Try.func8, Try.ntmps8
    go_wp2_with fail
    rw [← HW0.out]
    refine CL.out.mono ?_
    rintro e w1 ⟨rfl, rfl⟩
    go_wp2_with fail
    refine (awake_any _).mono ?_
    rintro e w8 ⟨rfl, hb12⟩
    go_wp2_with fail
    go_ret
    exact ⟨rfl, HE.out _ hb12⟩
  · have hlf := (Bool.not_eq_true _).mp hlb
    rw [hlf] at CL
    obtain ⟨hl, hw2, hsl, hfl⟩ := longB_two hlf
    clear hlf hlb
    by_cases ha1 : a < -1000
    · have d1 : decide (a < -1000) = true := decide_eq_true ha1
      go_enter Try.func8, Try.ntmps8
      go_wp2_with fail
      rw [← HW0.out]
      refine CL.out.mono ?_
      rintro e w1 ⟨rfl, rfl⟩
      go_wp2_with fail
      refine (awake_any _).mono ?_
      rintro e w8 ⟨rfl, hb12⟩
      go_wp2_with fail
      go_ret
      exact ⟨rfl, HE.out _ hb12⟩
    · have d1 : decide (a < -1000) = false := decide_eq_false ha1
      by_cases ha2 : 1000 < a
      · have d2 : decide (1000 < a) = true := decide_eq_true ha2
        go_enter Try.func8, Try.ntmps8
        go_wp2_with fail
        rw [← HW0.out]
        refine CL.out.mono ?_
        rintro e w1 ⟨rfl, rfl⟩
        go_wp2_with fail
        refine (awake_any _).mono ?_
        rintro e w8 ⟨rfl, hb12⟩
        go_wp2_with fail
        go_ret
        exact ⟨rfl, HE.out _ hb12⟩
      · have d2 : decide (1000 < a) = false := decide_eq_false ha2
        by_cases hw1 : W < -1000
        · have d3 : decide (W < -1000) = true := decide_eq_true hw1
          go_enter Try.func8, Try.ntmps8
          go_wp2_with fail
          rw [← HW0.out]
          refine CL.out.mono ?_
          rintro e w1 ⟨rfl, rfl⟩
          go_wp2_with fail
          refine (awake_any _).mono ?_
          rintro e w8 ⟨rfl, hb12⟩
          go_wp2_with fail
          go_ret
          exact ⟨rfl, HE.out _ hb12⟩
        · have d3 : decide (W < -1000) = false := decide_eq_false hw1
          obtain ⟨i0, hi, hz0, hz1, hz2⟩ := info_parts info37
          go_enter Try.func8, Try.ntmps8
          go_wp2_with fail
          rw [← HW0.out]
          refine CL.out.mono ?_
          rintro e w1 ⟨rfl, rfl⟩
          go_wp2_with fail
          clear d1 d2 d3 CL HW0
          refine Rs.region 5 (moreSp A2 c2 fr x W0.heap.size) [34, 35, 36, 37, 38] rfl (by decide) (by kernel_rfl) (by kernel_rfl) (by kernel_rfl) ?_ ?_
          · intro vals V hb
            have hbW := HE.out V hb
            have hBW := Lib.hid hbW
            have hszV := hb.size
            have kM := HM.out.below hb hMl
            obtain ⟨y0, y1⟩ := blk_cell2 kM
            clear hbW kM
            simp only [List.take_succ_cons, List.take_zero]
            refine ⟨Rs.stepL [] (by kernel_rfl) ?_, Rs.stepL [] (by kernel_rfl) ?_, Rs.stepL [34, 35] (by kernel_rfl) ?_, Rs.stepL [] (by kernel_rfl) ?_, Rs.stepL [37] (by kernel_rfl) ?_, trivial⟩
            · rintro -
              refine ⟨trivial, fun K hK => ?_⟩
              simp only [Rs.frm, List.foldl_cons, List.foldl_nil, Act.put, List.setIfInBounds_toArray, List.set_cons_succ, List.set_cons_zero] at hK ⊢
              have HK := Lib.hid hK
              clear hK
              go_wp2_with fail
              exact HK.out _ _ ((Below.refl _ _).alloc (Nat.le_refl _) _) ⟨V.heap.size, hszV, rfl, Blk.new _ _ _⟩
            · rintro -
              refine ⟨trivial, fun K hK => ?_⟩
              simp only [Rs.frm, List.foldl_cons, List.foldl_nil, Act.put, List.setIfInBounds_toArray, List.set_cons_succ, List.set_cons_zero] at hK ⊢
              have HK := Lib.hid hK
              clear hK
              go_wp2_with fail
              exact HK.out _ _ (Below.refl _ _) rfl
            · rintro ⟨⟨g, hg1, hg2, hg3⟩, h35, -⟩
              have e33 : vals 34 = .slice (some ⟨g, 0, none⟩) 0 0 := hg2
              have e35 : vals 35 = .slice A2 fr.length c2 := h35
              refine ⟨trivial, fun K hK => ?_⟩
              simp only [Rs.frm, List.foldl_cons, List.foldl_nil, Act.put, List.setIfInBounds_toArray, List.set_cons_succ, List.set_cons_zero] at hK ⊢
              have HK := Lib.hid hK
              clear hK
              refine wpList_append_lit V rfl (.tmp 34) (.tmp 35) 23 rfl 37 i0 _ 2 16 Try.underlying23 hi hz0 hz1 hz2 rfl (by decide) g W0.heap.size e33 hg3 hg1 w.heap.size A2 fr.length c2 (fr.flatMap Pl.cs) e35 (H2.out.below hBW.out) (pl_one fr) (by simp only [maxLen]; omega) (by omega) ?_
              intro A' c' W' hc1 hc2 hown hb'
              exact HK.out _ _ hb' ⟨A', c', rfl, hc1, hc2, hown⟩
            · rintro -
              refine ⟨trivial, fun K hK => ?_⟩
              simp only [Rs.frm, List.foldl_cons, List.foldl_nil, Act.put, List.setIfInBounds_toArray, List.set_cons_succ, List.set_cons_zero] at hK ⊢
              have HK := Lib.hid hK
              clear hK
              go_wp2_with fail
              exact HK.out _ _ (Below.refl _ _) rfl
            · rintro ⟨h37, -⟩
              have e37 : vals 37 = .agg #[.int .i64 x.n, .int .u64 x.s] := h37
              refine ⟨trivial, fun K hK => ?_⟩
              simp only [Rs.frm, List.foldl_cons, List.foldl_nil, Act.put, List.setIfInBounds_toArray, List.set_cons_succ, List.set_cons_zero, e37] at hK ⊢
              have HK := Lib.hid hK
              clear hK
              go_wp2_with fail
              exact HK.out _ _ ((Below.refl _ _).alloc (Nat.le_refl _) _) ⟨V.heap.size, hszV, rfl, Blk.new _ _ _⟩
          · intro vals V hb hL
            simp only [List.drop_succ_cons, List.drop_zero]
            obtain ⟨-, -, ⟨A', c', h36, hc1', hc2', hown⟩, -, ⟨g, hg1, hg2, hg3⟩, -⟩ := hL
            have e36 : vals 36 = .slice A' fr.length c' := h36
            have e38 : vals 38 = .slice (some ⟨g, 0, none⟩) 1 1 := hg2
            simp only [Rs.frm, List.foldl_cons, List.foldl_nil, Act.put, List.setIfInBounds_toArray, List.set_cons_succ, List.set_cons_zero, e36, e38]
            have hbV := HE.out V hb
            have HB := Lib.hid hb
            refine wpList_append_any V rfl (.tmp 36) (.tmp 38) 23 rfl W0.heap.size 37 i0 _ 2 16 Try.underlying23 hi hz0 hz1 hz2 rfl (by decide) (.slice A' fr.length c') fr.length (fr.flatMap Pl.cs) rfl hown V.heap.size (some ⟨g, 0, none⟩) 1 1 (Pl.cs x) rfl (Reads.of_blk hg3 rfl rfl) (pl_one1 x.n x.s) (by simp only [maxLen]; omega) (by omega) hb.size ?_
            intro v' V2 hown2 hgr hat
            have hb2 : Below W0.heap.size W0 V2 := HB.out.grown hgr HB.out.size (fun k hk => (hown.lt k hk).1)
            have hbw2 := HE.out V2 hb2
            obtain ⟨A3, c3, rfl, hc31, hc32⟩ := own_form hown2
            have R3 : Hid (PR V2 V2.heap.size A3 (fr ++ [x])) := Lib.hid (by unfold PR; rw [List.flatMap_append, List.flatMap_singleton, List.length_append]; exact Reads.of_own hown2)
            have HF2 := Lib.hid (HF.out.below hb2 hFl)
            have hFl2 := HF2.out.lt
            have P0 := (H.out.below hbw2).more hbw2.size
            have P1 := (H1.out.below hbw2).more hbw2.size
            have P2 := (H2.out.below hbw2).more hbw2.size
            obtain ⟨b1, hb1⟩ : ∃ b, ackedB s a fr = b := ⟨_, rfl⟩
            obtain ⟨b2, hb2'⟩ : ∃ b, missB s W a fr = b := ⟨_, rfl⟩
            obtain ⟨b3, hb3⟩ : ∃ b, coverB l W a fr = b := ⟨_, rfl⟩
            have hsub : ∀ y ∈ fr, y ∈ fr ++ [x] := fun y hy => List.mem_append_left _ hy
            have hlen : (fr ++ [x]).length = fr.length + 1 := by simp
            have CA : Hid (∀ W', Below V2.heap.size V2 W' → Calls Try.prog 22 #[.slice A1 s.length c1, .int .i64 a, .slice A2 fr.length c2] W' fun e w' => e = .returned (.bool b1) ∧ Below W'.heap.size W' w') :=
              Lib.hid fun W' hb => by rw [← hb1]; exact acked_any s fr a A1 A2 c1 c2 _ W' (P1.below hb) (P2.below hb) hb.size hc1 (by omega) (by omega)
            have CA2 : Hid (b1 = true → ∀ W', Below V2.heap.size V2 W' → Calls Try.prog 22 #[.slice A1 s.length c1, .int .i64 a, .slice A3 (fr.length + 1) c3] W' fun e w' => e = .returned (.bool true) ∧ Below W'.heap.size W' w') :=
              Lib.hid fun h1 W' hb => by
                have := acked_any s (fr ++ [x]) a A1 A3 c1 c3 _ W' (P1.below hb) (R3.out.below hb) hb.size hc1 (by omega) (by rw [hlen]; omega)
                rw [acked_mono hsub (hb1.trans h1), hlen] at this
                exact this
            have CB : Hid (∀ W', Below V2.heap.size V2 W' → Calls Try.prog 24 #[.slice A1 s.length c1, .int .i64 W, .int .i64 a, .slice A2 fr.length c2] W' fun e w' => e = .returned (.bool b2) ∧ Below W'.heap.size W' w') :=
              Lib.hid fun W' hb => by rw [← hb2']; exact missing_any s fr W a A1 A2 c1 c2 _ W' (P1.below hb) (P2.below hb) hb.size hc1 (by omega) (by omega) (by omega) (by omega) (by omega) (by omega)
            have CB2 : Hid (b2 = true → ∀ W', Below V2.heap.size V2 W' → Calls Try.prog 24 #[.slice A1 s.length c1, .int .i64 W, .int .i64 a, .slice A3 (fr.length + 1) c3] W' fun e w' => e = .returned (.bool true) ∧ Below W'.heap.size W' w') :=
              Lib.hid fun h1 W' hb => by
                have := missing_any s (fr ++ [x]) W a A1 A3 c1 c3 _ W' (P1.below hb) (R3.out.below hb) hb.size hc1 (by omega) (by rw [hlen]; omega) (by omega) (by omega) (by omega) (by omega)
                rw [miss_mono hsub (hb2'.trans h1), hlen] at this
                exact this
            have CC : Hid (∀ W', Below V2.heap.size V2 W' → Calls Try.prog 20 #[.agg #[.int .u64 first, .slice A l.length c], .int .i64 W, .int .i64 a, .slice A2 fr.length c2] W' fun e w' => e = .returned (.bool b3) ∧ Below W'.heap.size W' w') :=
              Lib.hid fun W' hb => by rw [← hb3]; exact covered_any first W a l fr A A2 c c2 _ W' (P0.below hb) (P2.below hb) hb.size (by omega) (by omega) (by omega) (by omega) (by omega) (by omega)
            have CC2 : Hid (b3 = true → ∀ W', Below V2.heap.size V2 W' → Calls Try.prog 20 #[.agg #[.int .u64 first, .slice A l.length c], .int .i64 W, .int .i64 a, .slice A3 (fr.length + 1) c3] W' fun e w' => e = .returned (.bool true) ∧ Below W'.heap.size W' w') :=
              Lib.hid fun h1 W' hb => by
                have := covered_any first W a l (fr ++ [x]) A A3 c c3 _ W' (P0.below hb) (R3.out.below hb) hb.size (by omega) (by rw [hlen]; omega) (by omega) (by omega) (by omega) (by omega)
                rw [cover_mono hsub (hb3.trans h1), hlen] at this
                exact this
            have HBc : Below V2.heap.size V2 V2 := Below.refl _ _
            have HP0 := Lib.hid P0
            clear P0 P1 P2 hb1 hb2' hb3 hlen hsub hown hown2 hgr hat hb2 hc31 hc32 h36 hg2 hg3 e36 e38 hi hz0 hz1 hz2 HB hb
            go_upto_region 4 with fail
            go_cut [80] from 40 to 80 (fun r wc => r = .bool false ∧ Below V2.heap.size V2 wc)
            case first =>
              have f0 := (HF2.out.below HBc hFl2).cell 0
              have f1 := (HF2.out.below HBc hFl2).cell 1
              cases b1 <;> cases b2 <;> cases b3
              all_goals
                go_wp2_with (first | (go_at_call 22; with_reducible (refine (CA.out _ HBc).mono ?_); rintro e w' ⟨rfl, hbx⟩; replace HBc := HBc.trans (hbx.mono HBc.size); replace f0 := (HF2.out.below HBc hFl2).cell 0; replace f1 := (HF2.out.below HBc hFl2).cell 1; clear hbx) | (go_at_call 22; with_reducible (refine (CA2.out (by trivial) _ HBc).mono ?_); rintro e w' ⟨rfl, hbx⟩; replace HBc := HBc.trans (hbx.mono HBc.size); replace f0 := (HF2.out.below HBc hFl2).cell 0; replace f1 := (HF2.out.below HBc hFl2).cell 1; clear hbx) | (go_at_call 24; with_reducible (refine (CB.out _ HBc).mono ?_); rintro e w' ⟨rfl, hbx⟩; replace HBc := HBc.trans (hbx.mono HBc.size); replace f0 := (HF2.out.below HBc hFl2).cell 0; replace f1 := (HF2.out.below HBc hFl2).cell 1; clear hbx) | (go_at_call 24; with_reducible (refine (CB2.out (by trivial) _ HBc).mono ?_); rintro e w' ⟨rfl, hbx⟩; replace HBc := HBc.trans (hbx.mono HBc.size); replace f0 := (HF2.out.below HBc hFl2).cell 0; replace f1 := (HF2.out.below HBc hFl2).cell 1; clear hbx) | (go_at_call 20; with_reducible (refine (CC.out _ HBc).mono ?_); rintro e w' ⟨rfl, hbx⟩; replace HBc := HBc.trans (hbx.mono HBc.size); replace f0 := (HF2.out.below HBc hFl2).cell 0; replace f1 := (HF2.out.below HBc hFl2).cell 1; clear hbx) | (go_at_call 20; with_reducible (refine (CC2.out (by trivial) _ HBc).mono ?_); rintro e w' ⟨rfl, hbx⟩; replace HBc := HBc.trans (hbx.mono HBc.size); replace f0 := (HF2.out.below HBc hFl2).cell 0; replace f1 := (HF2.out.below HBc hFl2).cell 1; clear hbx))
                go_meet
                exact ⟨rfl, HBc⟩
            case rest =>
              obtain ⟨rfl, hbc⟩ := hcut
              clear CA CA2 CB CB2 CC CC2 HBc R3
              have hbw3 := hbw2.trans (hbc.mono hbw2.size)
              have HF3 := Lib.hid (HF2.out.below hbc hFl2)
              have hFl3 := HF3.out.lt
              have HP3 := Lib.hid ((HP0.out.below hbc).more hbc.size)
              have f0 := HF3.out.cell 0
              have f1 := HF3.out.cell 1
              have CM : Hid (Calls Try.prog 16 #[.int .i64 W, .slice (some ⟨wc.heap.size, 0, none⟩) 1 1] (wc.alloc (.cells #[.int .u64 1, .slice A l.length c] 25)) fun e w' => e = .returned (.bool (mayL W l)) ∧ Below (wc.heap.size + 1) (wc.alloc (.cells #[.int .u64 1, .slice A l.length c] 25)) w') :=
                Lib.hid (by have := mayFrags_any W l A c _ 0 1 (wc.alloc (.cells #[.int .u64 1, .slice A l.length c] 25)) (FC.of_blk (Blk.new _ _ _)) (by simp) ((HP3.out.alloc (Nat.le_refl _) _).more (by simp)) (by omega); rwa [World.size_alloc] at this)
              go_upto_region 6 with fail
              go_cut [108] from 81 to 108 (fun r we => r = .bool false ∧ Below wc.heap.size wc we)
              case first =>
                cases hm : mayL W l with
                | false =>
                  rw [hm] at CM
                  clear hm
                  go_wp2_with fail
                  refine CM.out.mono ?_
                  rintro e wd ⟨rfl, hbd⟩
                  go_wp2_with fail
                  go_meet
                  exact ⟨rfl, ((Below.refl wc.heap.size wc).alloc (Nat.le_refl _) _).trans (hbd.mono (by simp))⟩
                | true =>
                  rw [hm] at CM
                  have HMA := Lib.hid hm
                  clear hm
                  go_wp2_with fail
                  refine CM.out.mono ?_
                  rintro e wd ⟨rfl, hbd⟩
                  have hbe : Below wc.heap.size wc wd := ((Below.refl wc.heap.size wc).alloc (Nat.le_refl _) _).trans (hbd.mono (by simp))
                  have HF4 := HF3.out.below hbe hFl3
                  replace f0 := HF4.cell 0
                  replace f1 := HF4.cell 1
                  clear hbd HF4
                  by_cases q1 : 1 ≤ W
                  · have e1 : decide (1 ≤ W) = true := decide_eq_true q1
                    by_cases q2 : 1 ≤ a
                    · have e2 : decide (1 ≤ a) = true := decide_eq_true q2
                      by_cases q3 : a ≤ W
                      · have e3 : decide (a ≤ W) = true := decide_eq_true q3
                        have HC := Lib.hid (cover_self (l := l) HMA.out q1 q2)
                        go_wp2_with fail
                        refine (covered_any first W a l l A A c c _ wd (HP3.out.below hbe) (HP3.out.below hbe) hbe.size (by omega) (by omega) (by omega) (by omega) (by omega) (by omega)).mono ?_
                        rw [HC.out]
                        rintro e we ⟨rfl, hbf⟩
                        go_wp2_with fail
                        go_meet
                        exact ⟨rfl, hbe.trans (hbf.mono hbe.size)⟩
                      · have e3 : decide (a ≤ W) = false := decide_eq_false q3
                        go_wp2_with fail
                        go_meet
                        exact ⟨rfl, hbe⟩
                    · have e2 : decide (1 ≤ a) = false := decide_eq_false q2
                      go_wp2_with fail
                      go_meet
                      exact ⟨rfl, hbe⟩
                  · have e1 : decide (1 ≤ W) = false := decide_eq_false q1
                    go_wp2_with fail
                    go_meet
                    exact ⟨rfl, hbe⟩
              case rest =>
                obtain ⟨rfl, hbd⟩ := hcut
                clear CM f0 f1 HF3 HP3
                go_wp2_with fail
                refine (awake_any _).mono ?_
                rintro e w8 ⟨rfl, hb12⟩
                go_wp2_with fail
                go_ret
                have hbw4 := hbw3.trans (hbd.mono hbw3.size)
                exact ⟨rfl, hbw4.trans (hb12.mono hbw4.size)⟩
end Go.Proofs.Ytcmidhecmhbeoaa
