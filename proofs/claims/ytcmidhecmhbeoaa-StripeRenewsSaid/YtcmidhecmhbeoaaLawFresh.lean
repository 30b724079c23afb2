/- StripeFresh: the law is true at all arguments. -/
import Derived.Test.YtcmidhecmhbeoaaLawPicks
import Derived.Test.YtcmidhecmhbeoaaRenB
import Derived.Test.YtcmidhecmhbeoaaPlainG
import Derived.BigQuiet
namespace Go.Proofs.Ytcmidhecmhbeoaa
open Go.RowKit

theorem longB_two {k : Nat} {W : Int} {A1 A2 : Option Addr} {k1 c1 k2 c2 : Nat} (h : longB k W [⟨A1, k1, c1⟩, ⟨A2, k2, c2⟩] = false) : k ≤ 30 ∧ W ≤ 1000 ∧ k1 ≤ 60 ∧ k2 ≤ 60 := by
  simp [longB] at h
  omega

set_option maxRecDepth 100000 in
set_option maxHeartbeats 4000000 in
theorem lawFresh_any (first W e : Int) (l bad kn : List Pl) (A A3 A4 : Option Addr) (c c3 c4 : Nat) (w : World) (h : PR w w.heap.size A l) (h3 : PR w w.heap.size A3 bad) (h4 : PR w w.heap.size A4 kn) (hm3 : bad.length ≤ maxLen) (hm4 : kn.length ≤ maxLen) :
    Calls Try.prog 4 #[.agg #[.int .u64 first, .slice A l.length c], .int .i64 W, .int .i64 e, .slice A3 bad.length c3, .slice A4 kn.length c4] w fun e w' => e = .returned (.bool true) ∧ Below w.heap.size w w' := by
  have H := Lib.hid h
  have H3 := Lib.hid h3
  have H4 := Lib.hid h4
  clear h h3 h4
  obtain ⟨W0, hW0⟩ : ∃ W0, W0 = ((w.alloc (.cells #[.int .u64 first, .slice A l.length c] 25)).alloc (.cells #[.int .u64 first, .slice A l.length c] 25)).alloc (.cells #[.slice A3 bad.length c3, .slice A4 kn.length c4] 23) := ⟨_, rfl⟩
  have hb0 : Below w.heap.size w W0 := by rw [hW0]; exact (((Below.refl _ _).alloc (Nat.le_refl _) _).alloc (by simp) _).alloc (by simp; omega) _
  have hF : Blk W0 w.heap.size 25 #[.int .u64 first, .slice A l.length c] := by rw [hW0]; exact ((Blk.new _ _ _).alloc _).alloc _
  have hG : Blk W0 (w.heap.size + 1) 25 #[.int .u64 first, .slice A l.length c] := by rw [hW0]; exact (blk_newAt (by simp) _ _).alloc _
  have hR : Blk W0 (w.heap.size + 1 + 1) 23 #[.slice A3 bad.length c3, .slice A4 kn.length c4] := by rw [hW0]; exact blk_newAt (by simp) _ _
  have CL : Hid (Calls Try.prog 10 #[.slice (some ⟨w.heap.size + 1, 0, none⟩) 1 1, .int .i64 W, .slice (some ⟨w.heap.size + 1 + 1, 0, none⟩) 2 2] W0 fun e w' => e = .returned (.bool (longB l.length W [⟨A3, bad.length, c3⟩, ⟨A4, kn.length, c4⟩])) ∧ W0 = w') :=
    Lib.hid (long_any first W A _ l.length c _ 0 1 2 [⟨A3, bad.length, c3⟩, ⟨A4, kn.length, c4⟩] _ W0 (FC.of_blk hG) (Reads.of_blk hR rfl rfl) (by simp) (by simp; omega))
  have HW0 := Lib.hid hW0
  have HF := Lib.hid hF
  have hFl := hF.lt
  have hend : ∀ w2, Below W0.heap.size W0 w2 → Below w.heap.size w w2 := fun w2 hb => hb0.trans (hb.mono hb0.size)
  have HE := Lib.hid hend
  have HP := Lib.hid ((H.out.below hb0).more hb0.size)
  have f0 := hF.cell 0
  have f1 := hF.cell 1
  have hs0 : w.heap.size ≤ W0.heap.size := hb0.size
  clear hG hR hend hF hW0
  by_cases hlb : longB l.length W [⟨A3, bad.length, c3⟩, ⟨A4, kn.length, c4⟩] = true
  · rw [hlb] at CL
    clear hlb
    go_enter Try.func4, Try.ntmps4
    go_wp2_with fail
    rw [← HW0.out]
    refine CL.out.mono ?_
    rintro e w1 ⟨rfl, rfl⟩
    go_wp2_with fail
    refine (awake_any _).mono ?_
    rintro e w8 ⟨rfl, hb12⟩
    go_wp2_with fail
    go_ret
    exact ⟨rfl, HE.out _ (hb12)⟩
  · have hlf := (Bool.not_eq_true _).mp hlb
    rw [hlf] at CL
    obtain ⟨hl, hw2, hl3, hl4⟩ := longB_two hlf
    clear hlf hlb
    have CM : Hid (Calls Try.prog 16 #[.int .i64 W, .slice (some ⟨W0.heap.size, 0, none⟩) 1 1] (W0.alloc (.cells #[.int .u64 1, .slice A l.length c] 25)) fun e w' => e = .returned (.bool (mayL W l)) ∧ Below (W0.heap.size + 1) (W0.alloc (.cells #[.int .u64 1, .slice A l.length c] 25)) w') :=
      Lib.hid (by have := mayFrags_any W l A c _ 0 1 (W0.alloc (.cells #[.int .u64 1, .slice A l.length c] 25)) (FC.of_blk (Blk.new _ _ _)) (by simp) ((HP.out.alloc (Nat.le_refl _) _).more (by simp)) (by omega); rwa [World.size_alloc] at this)
    by_cases hml : ¬ mayL W l = true
    · rw [(Bool.not_eq_true _).mp hml] at CM
      clear hml
      go_enter Try.func4, Try.ntmps4
      go_wp2_with fail
      rw [← HW0.out]
      refine CL.out.mono ?_
      rintro e w1 ⟨rfl, rfl⟩
      go_wp2_with fail
      refine CM.out.mono ?_
      rintro e wd ⟨rfl, hbd⟩
      have hbe : Below W0.heap.size W0 wd := ((Below.refl W0.heap.size W0).alloc (Nat.le_refl _) _).trans (hbd.mono (by simp))
      have HF4 := HF.out.below hbe hFl
      have g0 := HF4.cell 0
      have g1 := HF4.cell 1
      clear hbd HF4 f0 f1
      go_wp2_with fail
      refine (awake_any _).mono ?_
      rintro e w8 ⟨rfl, hb12⟩
      go_wp2_with fail
      go_ret
      exact ⟨rfl, HE.out _ (hbe.trans (hb12.mono hbe.size))⟩
    · have hmt : mayL W l = true := by simpa using hml
      rw [hmt] at CM
      have HMT := Lib.hid hmt
      clear hml hmt
      by_cases hw1 : W < 1
      · have d1 : decide (W < 1) = true := decide_eq_true hw1
        go_enter Try.func4, Try.ntmps4
        go_wp2_with fail
        rw [← HW0.out]
        refine CL.out.mono ?_
        rintro e w1 ⟨rfl, rfl⟩
        go_wp2_with fail
        refine CM.out.mono ?_
        rintro e wd ⟨rfl, hbd⟩
        have hbe : Below W0.heap.size W0 wd := ((Below.refl W0.heap.size W0).alloc (Nat.le_refl _) _).trans (hbd.mono (by simp))
        have HF4 := HF.out.below hbe hFl
        have g0 := HF4.cell 0
        have g1 := HF4.cell 1
        clear hbd HF4 f0 f1
        go_wp2_with fail
        refine (awake_any _).mono ?_
        rintro e w8 ⟨rfl, hb12⟩
        go_wp2_with fail
        go_ret
        exact ⟨rfl, HE.out _ (hbe.trans (hb12.mono hbe.size))⟩
      · have d1 : decide (W < 1) = false := decide_eq_false hw1
        have CN : Hid (∀ wd, Below W0.heap.size W0 wd → Calls Try.prog 16 #[.int .i64 0, .slice (some ⟨wd.heap.size, 0, none⟩) 1 1] (wd.alloc (.cells #[.int .u64 1, .slice A4 kn.length c4] 25)) fun e w' => e = .returned (.bool (mayL 0 kn)) ∧ Below (wd.heap.size + 1) (wd.alloc (.cells #[.int .u64 1, .slice A4 kn.length c4] 25)) w') :=
          Lib.hid fun wd hbe => by
            have hp : PR wd wd.heap.size A4 kn := (H4.out.below (HE.out _ hbe)).more (HE.out _ hbe).size
            have := mayFrags_any 0 kn A4 c4 _ 0 1 (wd.alloc (.cells #[.int .u64 1, .slice A4 kn.length c4] 25)) (FC.of_blk (Blk.new _ _ _)) (by simp) ((hp.alloc (Nat.le_refl _) _).more (by simp)) (by omega)
            rwa [World.size_alloc] at this
        by_cases hml : ¬ mayL 0 kn = true
        · rw [(Bool.not_eq_true _).mp hml] at CN
          clear hml
          go_enter Try.func4, Try.ntmps4
          go_wp2_with fail
          rw [← HW0.out]
          refine CL.out.mono ?_
          rintro e w1 ⟨rfl, rfl⟩
          go_wp2_with fail
          refine CM.out.mono ?_
          rintro e wd ⟨rfl, hbd⟩
          have hbe : Below W0.heap.size W0 wd := ((Below.refl W0.heap.size W0).alloc (Nat.le_refl _) _).trans (hbd.mono (by simp))
          have HF4 := HF.out.below hbe hFl
          have g0 := HF4.cell 0
          have g1 := HF4.cell 1
          clear hbd HF4 f0 f1
          go_wp2_with fail
          refine (CN.out wd hbe).mono ?_
          rintro e wf ⟨rfl, hbd⟩
          have hbg : Below W0.heap.size W0 wf := hbe.trans ((((Below.refl wd.heap.size wd).alloc (Nat.le_refl _) _).trans (hbd.mono (by simp))).mono hbe.size)
          have HF4 := HF.out.below hbg hFl
          have f0 := HF4.cell 0
          have f1 := HF4.cell 1
          clear hbd HF4 g0 g1
          go_wp2_with fail
          refine (awake_any _).mono ?_
          rintro e w8 ⟨rfl, hb12⟩
          go_wp2_with fail
          go_ret
          exact ⟨rfl, HE.out _ (hbg.trans (hb12.mono hbg.size))⟩
        · have hmt : mayL 0 kn = true := by simpa using hml
          rw [hmt] at CN
          have HMK := Lib.hid hmt
          clear hml hmt
          go_enter Try.func4, Try.ntmps4
          go_wp2_with fail
          rw [← HW0.out]
          refine CL.out.mono ?_
          rintro e w1 ⟨rfl, rfl⟩
          go_wp2_with fail
          refine CM.out.mono ?_
          rintro e wd ⟨rfl, hbd⟩
          have hbe : Below W0.heap.size W0 wd := ((Below.refl W0.heap.size W0).alloc (Nat.le_refl _) _).trans (hbd.mono (by simp))
          have HF4 := HF.out.below hbe hFl
          have g0 := HF4.cell 0
          have g1 := HF4.cell 1
          clear hbd HF4 f0 f1
          go_wp2_with fail
          refine (CN.out wd hbe).mono ?_
          rintro e wf ⟨rfl, hbd⟩
          have hbg : Below W0.heap.size W0 wf := hbe.trans ((((Below.refl wd.heap.size wd).alloc (Nat.le_refl _) _).trans (hbd.mono (by simp))).mono hbe.size)
          have HF4 := HF.out.below hbg hFl
          have f0 := HF4.cell 0
          have f1 := HF4.cell 1
          clear hbd HF4 g0 g1
          go_wp2_with fail
          have hwf := HE.out _ hbg
          refine (renew_any first W e l bad kn A A3 A4 c c3 c4 wf ((H.out.below hwf).more hwf.size) ((H3.out.below hwf).more hwf.size) ((H4.out.below hwf).more hwf.size) (by omega) (by omega) (by omega)).mono ?_
          intro ee w2 hgv
          clear CL CM CN HW0 d1
          cases hren : renP l W e bad kn with
          | none =>
            rw [hren] at hgv
            obtain ⟨rfl, hb2⟩ := hgv
            have hb02 := hbg.trans (hb2.mono hbg.size)
            clear f0 f1 hren
            go_wp2_with fail
            refine (awake_any _).mono ?_
            rintro e w8 ⟨rfl, hb12⟩
            go_wp2_with fail
            go_ret
            exact ⟨rfl, HE.out _ ((hb02.alloc hb02.size _).trans (hb12.mono (by have := hb02.size; simp; omega)))⟩
          | some b =>
            rw [hren] at hgv
            obtain ⟨hmb, hsub, hnob⟩ := renP_fresh HMT.out HMK.out hren
            obtain ⟨A6, c6, rfl, hb2, hc61, hc62, ho6⟩ := hgv
            have hb02 := hbg.trans (hb2.mono hbg.size)
            have HO := Lib.hid ho6
            have HMB := Lib.hid hmb
            have HSUB := Lib.hid hsub
            have HNOB := Lib.hid hnob
            clear ho6 hren hmb hsub hnob f0 f1
            have HF2 := HF.out.below hb02 hFl
            have f0 := HF2.cell 0
            have f1 := HF2.cell 1
            go_wp2_with fail
            have hbx : Below w2.heap.size w2 ((w2.alloc (.cells #[.int .u64 first, .slice A6 b.length c6] 25)).alloc (.cells #[.int .u64 1, .slice A6 b.length c6] 25)) := ((Below.refl _ _).alloc (Nat.le_refl _) _).alloc (by simp) _
            have hgx : Blk ((w2.alloc (.cells #[.int .u64 first, .slice A6 b.length c6] 25)).alloc (.cells #[.int .u64 1, .slice A6 b.length c6] 25)) w2.heap.size 25 #[.int .u64 first, .slice A6 b.length c6] := (Blk.new _ _ _).alloc _
            have hrx : PR w2 w2.heap.size A6 b := Reads.of_own HO.out
            have hb5 : b.length ≤ 5 := by have := HMB.out; unfold mayL at this; exact (of_decide_eq_true this).2.1
            have CX := Lib.hid (mayFrags_any W b A6 c6 (w2.heap.size + 1) 0 1 ((w2.alloc (.cells #[.int .u64 first, .slice A6 b.length c6] 25)).alloc (.cells #[.int .u64 1, .slice A6 b.length c6] 25)) (FC.of_blk (blk_newAt (by simp) 25 #[.int .u64 1, .slice A6 b.length c6])) (by simp) ((hrx.below hbx).more hbx.size) (by omega))
            rw [HMB.out] at CX
            refine CX.out.mono ?_
            rintro ee w3 ⟨rfl, hby⟩
            have hb23 : Below w2.heap.size w2 w3 := hbx.trans (hby.mono hbx.size)
            have hG3 := hgx.below hby (by simp; omega)
            have hb03 := hb02.trans (hb23.mono hb02.size)
            have HF3 := Lib.hid (HF.out.below hb03 hFl)
            have HP6 : Hid (PR w3 w3.heap.size A6 b) := Lib.hid ((hrx.below hb23).more hb23.size)
            have HG3 := Lib.hid hG3
            have HPL : Hid (PR w3 w3.heap.size A l) := Lib.hid ((H.out.below (HE.out _ hb03)).more (HE.out _ hb03).size)
            have HP3 : Hid (PR w3 w3.heap.size A3 bad) := Lib.hid ((H3.out.below (HE.out _ hb03)).more (HE.out _ hb03).size)
            have HP4 : Hid (PR w3 w3.heap.size A4 kn) := Lib.hid ((H4.out.below (HE.out _ hb03)).more (HE.out _ hb03).size)
            have hFl3 := HF3.out.lt
            have hGl3 := HG3.out.lt
            have hwG : w.heap.size < w2.heap.size := by have := hb02.size; omega
            clear f0 f1 CX hbx hgx hrx hby hG3 HF2 hb2 HO hb02
            have f0 := HF3.out.cell 0
            have f1 := HF3.out.cell 1
            obtain ⟨g0, g1⟩ := blk_cell2 HG3.out
            have ee1 : (first == first) = true := by simp
            go_wp2_with fail
            clear f0 f1 g0 g1 ee1
            go_loopw [13, 16] (fun g i wr => ∃ j : Nat, j ≤ kn.length ∧ i = .int .i64 j ∧ (∃ v : Nat, g = .int .i64 v ∧ v ≤ j ∧ v = (keepL bad (kn.take j)).length) ∧ Below w3.heap.size w3 wr) (fun _ i _ => kn.length - (intOf i).toNat)
            case atStart => exact ⟨0, Nat.zero_le _, rfl, ⟨0, rfl, Nat.le_refl _, rfl⟩, Below.refl _ _⟩
            case round =>
              obtain ⟨j, hj, rfl, ⟨v, rfl, hvj, hv⟩, hbr⟩ := hrel
              have HV := Lib.hid hv
              clear hv
              by_cases hlt : j < kn.length
              · obtain ⟨bb, o, yn, ys, rfl, hBb, hy, y0, y1⟩ := pl_elem (HP4.out.below hbr) hlt
                have HT := Lib.hid (congrArg (keepL bad) (take_snoc? hy))
                have hsr := hbr.size
                clear hy
                go_wp2_with fail
                refine (has_any bad A3 c3 yn ys _ wr ((HP3.out.below hbr).more hbr.size) (Nat.le_refl _) (by omega)).mono ?_
                rintro e w5 ⟨rfl, hb6⟩
                have hbr5 := hbr.trans (hb6.mono hbr.size)
                clear y0 y1 hb6
                by_cases hm : (⟨yn, ys⟩ : Pl) ∈ bad
                · rw [decide_eq_true hm]
                  have hv' : v = (keepL bad (kn.take (j + 1))).length := by rw [HT.out, keepL_snoc, if_pos hm]; exact HV.out
                  have HV' := Lib.hid hv'
                  clear hv' hm
                  go_wp2_with fail
                  go_roundw
                  case rel => exact ⟨j + 1, by omega, by go_num, ⟨v, rfl, by omega, HV'.out⟩, hbr5⟩
                  case measure => simp [intOf]; omega
                · rw [decide_eq_false hm]
                  have hv' : v + 1 = (keepL bad (kn.take (j + 1))).length := by rw [HT.out, keepL_snoc, if_neg hm, List.length_append, List.length_singleton, ← HV.out]
                  have HV' := Lib.hid hv'
                  clear hv' hm
                  go_wp2_with fail
                  go_roundw
                  case rel => exact ⟨j + 1, by omega, by go_num, ⟨v + 1, by go_num, by omega, HV'.out⟩, hbr5⟩
                  case measure => simp [intOf]; omega
              · have hjl : j = kn.length := by omega
                subst hjl
                have hv2 : v = (keepL bad kn).length := by have := HV.out; rwa [List.take_of_length_le (Nat.le_refl _)] at this
                have HV2 := Lib.hid hv2
                clear hv2 HV
                go_wp2_with fail
                have hbr1 := Lib.hid hbr
                clear hbr
                go_loopw [14, 17] (fun g i wr2 => ∃ j : Nat, j ≤ b.length ∧ i = .int .i64 j ∧ (∃ v : Nat, g = .int .i64 v ∧ v ≤ j ∧ ((∀ x ∈ b, x ∉ bad) → v = 0)) ∧ Below w3.heap.size w3 wr2) (fun _ i _ => b.length - (intOf i).toNat)
                case atStart => exact ⟨0, Nat.zero_le _, rfl, ⟨0, rfl, Nat.le_refl _, fun _ => rfl⟩, hbr1.out⟩
                case round =>
                  obtain ⟨j, hj, rfl, ⟨v2, rfl, hvj2, hv2⟩, hbr⟩ := hrel
                  have HW := Lib.hid hv2
                  clear hv2 hbr1
                  have hG := HG3.out.below hbr hGl3
                  have g1 := (blk_cell2 hG).2
                  clear hG
                  by_cases hlt : j < b.length
                  · obtain ⟨bb, o, yn, ys, rfl, hBb, hy, y0, y1⟩ := pl_elem (HP6.out.below hbr) hlt
                    have HY := Lib.hid (List.mem_of_getElem? hy)
                    have hsr := hbr.size
                    clear hy
                    go_wp2_with fail
                    refine (has_any bad A3 c3 yn ys _ wr ((HP3.out.below hbr).more hbr.size) (Nat.le_refl _) (by omega)).mono ?_
                    rintro e w5 ⟨rfl, hb6⟩
                    have hbr5 := hbr.trans (hb6.mono hbr.size)
                    clear y0 y1 hb6 g1
                    by_cases hm : (⟨yn, ys⟩ : Pl) ∈ bad
                    · rw [decide_eq_true hm]
                      have HM := Lib.hid hm
                      clear hm
                      go_wp2_with fail
                      go_roundw
                      case rel => exact ⟨j + 1, by omega, by go_num, ⟨v2 + 1, by go_num, by omega, fun hno => absurd HM.out (hno _ HY.out)⟩, hbr5⟩
                      case measure => simp [intOf]; omega
                    · rw [decide_eq_false hm]
                      clear hm
                      go_wp2_with fail
                      go_roundw
                      case rel => exact ⟨j + 1, by omega, by go_num, ⟨v2, rfl, by omega, HW.out⟩, hbr5⟩
                      case measure => simp [intOf]; omega
                  · have hjl : j = b.length := by omega
                    subst hjl
                    go_wp2_with fail
                    have hbr1 := Lib.hid hbr
                    clear hbr g1
                    go_loopw [15, 18] (fun g i wr2 => ∃ j a : Nat, j ≤ l.length ∧ a ≤ b.length ∧ i = .int .i64 j ∧ g = .int .i64 a ∧ (keepL bad (l.drop j)).Sublist (b.drop a) ∧ Below w3.heap.size w3 wr2) (fun _ i _ => l.length - (intOf i).toNat)
                    case atStart => exact ⟨0, 0, Nat.zero_le _, Nat.zero_le _, rfl, rfl, by simpa using HSUB.out, hbr1.out⟩
                    case round =>
                      obtain ⟨j, a, hj, ha, rfl, rfl, hsb, hbr⟩ := hrel
                      have HS := Lib.hid hsb
                      clear hsb hbr1
                      have hFr := HF3.out.below hbr hFl3
                      have f0 := hFr.cell 0
                      have f1 := hFr.cell 1
                      clear hFr
                      by_cases hlt : j < l.length
                      · obtain ⟨bb, o, xn, xs, rfl, hBb, hy, y0, y1⟩ := pl_elem (HPL.out.below hbr) hlt
                        have hdr : l.drop j = ⟨xn, xs⟩ :: l.drop (j + 1) := by
                          obtain ⟨h1, h2⟩ := List.getElem?_eq_some_iff.1 hy
                          rw [List.drop_eq_getElem_cons h1, h2]
                        have HD := Lib.hid hdr
                        have hsr := hbr.size
                        clear hy hdr
                        go_wp2_with fail
                        refine (has_any bad A3 c3 xn xs _ wr ((HP3.out.below hbr).more hbr.size) (Nat.le_refl _) (by omega)).mono ?_
                        rintro e w5 ⟨rfl, hb6⟩
                        have hbr5 := hbr.trans (hb6.mono hbr.size)
                        clear y0 y1 hb6 f0 f1
                        by_cases hm : (⟨xn, xs⟩ : Pl) ∈ bad
                        · rw [decide_eq_true hm]
                          have hk : keepL bad (l.drop j) = keepL bad (l.drop (j + 1)) := by rw [HD.out]; unfold keepL; rw [List.filter_cons_of_neg (by simpa using hm)]
                          have HK := Lib.hid hk
                          clear hm hk
                          go_wp2_with fail
                          go_roundw
                          case rel => exact ⟨j + 1, a, by omega, ha, by go_num, rfl, by rw [← HK.out]; exact HS.out, hbr5⟩
                          case measure => simp [intOf]; omega
                        · rw [decide_eq_false hm]
                          have hk : keepL bad (l.drop j) = ⟨xn, xs⟩ :: keepL bad (l.drop (j + 1)) := by rw [HD.out]; unfold keepL; rw [List.filter_cons_of_pos (by simpa using hm)]
                          have HS' : Hid ((⟨xn, xs⟩ :: keepL bad (l.drop (j + 1))).Sublist (b.drop a)) := Lib.hid (by rw [← hk]; exact HS.out)
                          have hbr1 := Lib.hid hbr5
                          clear hm hk HS hbr5
                          go_wp2_with fail
                          go_loopw [15] (fun g wr2 => ∃ a : Nat, a ≤ b.length ∧ g = .int .i64 a ∧ (⟨xn, xs⟩ :: keepL bad (l.drop (j + 1))).Sublist (b.drop a) ∧ Below w3.heap.size w3 wr2) (fun g _ => b.length - (intOf g).toNat)
                          case atStart => exact ⟨a, ha, rfl, HS'.out, hbr1.out⟩
                          case round =>
                            obtain ⟨a, ha, rfl, hsb, hbr⟩ := hrel
                            clear HS' hbr1
                            have hal : a < b.length := by
                              have := hsb.length_le
                              rw [List.length_cons, List.length_drop] at this
                              omega
                            have HS := Lib.hid hsb
                            clear hsb
                            have hFr := HF3.out.below hbr hFl3
                            have f0 := hFr.cell 0
                            have f1 := hFr.cell 1
                            have hGr := HG3.out.below hbr hGl3
                            have g1 := (blk_cell2 hGr).2
                            obtain ⟨bc, o2, xn2, xs2, he2, hBb2, hx2, x0, x1⟩ := pl_elem (HPL.out.below hbr) hlt
                            obtain ⟨bd, o3, yn, ys, rfl, hBb3, hy, y0, y1⟩ := pl_elem (HP6.out.below hbr) hal
                            cases he2
                            have hxx : (⟨xn2, xs2⟩ : Pl) = ⟨xn, xs⟩ := by
                              obtain ⟨h1, h2⟩ := List.getElem?_eq_some_iff.1 hx2
                              have h3 := HD.out
                              rw [List.drop_eq_getElem_cons h1, h2] at h3
                              injection h3
                            cases hxx
                            have hdb : b.drop a = ⟨yn, ys⟩ :: b.drop (a + 1) := by
                              obtain ⟨h1, h2⟩ := List.getElem?_eq_some_iff.1 hy
                              rw [List.drop_eq_getElem_cons h1, h2]
                            have hE := run_neP yn ys xn xs
                            have HDB := Lib.hid hdb
                            have hsr := hbr.size
                            clear hFr hGr hx2 hy hdb
                            by_cases he : (⟨yn, ys⟩ : Pl) = ⟨xn, xs⟩
                            · rw [decide_eq_true he] at hE
                              clear he
                              go_wp2_with fail
                              go_quiet (fail)
                              have hs' : (keepL bad (l.drop (j + 1))).Sublist (b.drop a) := (List.sublist_cons_self _ _).trans HS.out
                              have HS' := Lib.hid hs'
                              clear hs'
                              go_wp2_with fail
                              go_roundw
                              case rel => exact ⟨j + 1, a, by omega, ha, by go_num, rfl, HS'.out, belowN hbr _⟩
                              case measure => simp [intOf]; omega
                            · rw [decide_eq_false he] at hE
                              have hs' : (⟨xn, xs⟩ :: keepL bad (l.drop (j + 1))).Sublist (b.drop (a + 1)) := by
                                have h1 := HS.out
                                rw [HDB.out] at h1
                                cases h1 with
                                | cons _ h1 => exact h1
                                | cons_cons _ h1 => exact absurd rfl he
                              have HS' := Lib.hid hs'
                              clear he hs'
                              go_wp2_with fail
                              go_quiet (fail)
                              go_wp2_with fail
                              go_roundw
                              case rel => exact ⟨a + 1, by omega, by go_num, HS'.out, belowN hbr _⟩
                              case measure => simp [intOf]; omega
                      · have hjl : j = l.length := by omega
                        subst hjl
                        by_cases hgw : (v : Int) < W
                        · have d1 : decide ((v : Int) < W) = true := decide_eq_true hgw
                          go_wp2_with fail
                          refine (awake_any _).mono ?_
                          rintro e w8 ⟨rfl, hb12⟩
                          go_wp2_with fail
                          go_ret
                          exact ⟨rfl, HE.out _ (hb03.trans ((hbr.trans (hb12.mono hbr.size)).mono hb03.size))⟩
                        · have d1 : decide ((v : Int) < W) = false := decide_eq_false hgw
                          have hv0 : v2 = 0 := HW.out (HNOB.out (by rw [← HV2.out]; omega))
                          subst hv0
                          go_wp2_with fail
                          refine (awake_any _).mono ?_
                          rintro e w8 ⟨rfl, hb12⟩
                          go_wp2_with fail
                          go_ret
                          exact ⟨rfl, HE.out _ (hb03.trans ((hbr.trans (hb12.mono hbr.size)).mono hb03.size))⟩
end Go.Proofs.Ytcmidhecmhbeoaa
