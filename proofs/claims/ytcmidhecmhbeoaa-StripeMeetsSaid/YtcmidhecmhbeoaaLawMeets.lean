/- StripeMeets: the law is true at all arguments. -/
import Derived.Test.YtcmidhecmhbeoaaLawRound
import Derived.Test.YtcmidhecmhbeoaaLawPicks
import Derived.Test.YtcmidhecmhbeoaaPlainM
namespace Go.Proofs.Ytcmidhecmhbeoaa
open Go.RowKit

set_option maxRecDepth 100000 in
set_option maxHeartbeats 8000000 in
theorem lawMeets_any (first W a n bt : Int) (l fr : List Pl) (A A4 : Option Addr) (c c4 : Nat) (w : World) (h : PR w w.heap.size A l) (h4 : PR w w.heap.size A4 fr) (hf0 : 0 ≤ first) (hn64 : n ≤ 18446744073709551615) (hm4 : fr.length ≤ maxLen) :
    Calls Try.prog 5 #[.agg #[.int .u64 first, .slice A l.length c], .int .i64 W, .int .i64 a, .int .u64 n, .slice A4 fr.length c4, .int .i64 bt] w fun e w' => e = .returned (.bool true) ∧ Below w.heap.size w w' := by
  have H := Lib.hid h
  have H4 := Lib.hid h4
  clear h h4
  obtain ⟨W0, hW0⟩ : ∃ W0, W0 = ((w.alloc (.cells #[.int .u64 first, .slice A l.length c] 25)).alloc (.cells #[.int .u64 first, .slice A l.length c] 25)).alloc (.cells #[.slice A4 fr.length c4] 23) := ⟨_, rfl⟩
  have hb0 : Below w.heap.size w W0 := by rw [hW0]; exact (((Below.refl _ _).alloc (Nat.le_refl _) _).alloc (by simp) _).alloc (by simp; omega) _
  have hF : Blk W0 w.heap.size 25 #[.int .u64 first, .slice A l.length c] := by rw [hW0]; exact ((Blk.new _ _ _).alloc _).alloc _
  have hG : Blk W0 (w.heap.size + 1) 25 #[.int .u64 first, .slice A l.length c] := by rw [hW0]; exact (blk_newAt (by simp) _ _).alloc _
  have hR : Blk W0 (w.heap.size + 1 + 1) 23 #[.slice A4 fr.length c4] := by rw [hW0]; exact blk_newAt (by simp) _ _
  have CL : Hid (Calls Try.prog 10 #[.slice (some ⟨w.heap.size + 1, 0, none⟩) 1 1, .int .i64 W, .slice (some ⟨w.heap.size + 1 + 1, 0, none⟩) 1 1] W0 fun e w' => e = .returned (.bool (longB l.length W [⟨A4, fr.length, c4⟩])) ∧ W0 = w') :=
    Lib.hid (long_any first W A _ l.length c _ 0 1 1 [⟨A4, fr.length, c4⟩] W0.heap.size W0 (FC.of_blk hG) (Reads.of_blk hR rfl rfl) (by simp) (by simp; omega))
  have HW0 := Lib.hid hW0
  have HF := Lib.hid hF
  have hFl := hF.lt
  have hend : ∀ w2, Below W0.heap.size W0 w2 → Below w.heap.size w w2 := fun w2 hb => hb0.trans (hb.mono hb0.size)
  have HE := Lib.hid hend
  have HP := Lib.hid ((H.out.below hb0).more hb0.size)
  have f0 := hF.cell 0
  have f1 := hF.cell 1
  clear hG hR hend hF hW0
  by_cases hlb : longB l.length W [⟨A4, fr.length, c4⟩] = true
  · rw [hlb] at CL
    clear hlb
    go_enter Try.func5, Try.ntmps5
    go_wp2_with fail
    rw [← HW0.out]
    refine CL.out.mono ?_
    rintro e w1 ⟨rfl, rfl⟩
    go_wp2_with fail
    refine (awake_any _).mono ?_
    rintro e w8 ⟨rfl, hb12⟩
    go_wp2_with fail
    go_ret
    exact ⟨rfl, HE.out _ hb12⟩
  · have hlf := (Bool.not_eq_true _).mp hlb
    rw [hlf] at CL
    obtain ⟨hl, hw2, hfl⟩ := longB_one hlf
    clear hlf hlb
    by_cases hw1 : W < 1
    · have d1 : decide (W < 1) = true := decide_eq_true hw1
      go_enter Try.func5, Try.ntmps5
      go_wp2_with fail
      rw [← HW0.out]
      refine CL.out.mono ?_
      rintro e w1 ⟨rfl, rfl⟩
      go_wp2_with fail
      refine (awake_any _).mono ?_
      rintro e w8 ⟨rfl, hb12⟩
      go_wp2_with fail
      go_ret
      exact ⟨rfl, HE.out _ hb12⟩
    · have d1 : decide (W < 1) = false := decide_eq_false hw1
      by_cases ha1 : a < 1
      · have d2 : decide (a < 1) = true := decide_eq_true ha1
        go_enter Try.func5, Try.ntmps5
        go_wp2_with fail
        rw [← HW0.out]
        refine CL.out.mono ?_
        rintro e w1 ⟨rfl, rfl⟩
        go_wp2_with fail
        refine (awake_any _).mono ?_
        rintro e w8 ⟨rfl, hb12⟩
        go_wp2_with fail
        go_ret
        exact ⟨rfl, HE.out _ hb12⟩
      · have d2 : decide (a < 1) = false := decide_eq_false ha1
        by_cases haw : W < a
        · have d3 : decide (W < a) = true := decide_eq_true haw
          go_enter Try.func5, Try.ntmps5
          go_wp2_with fail
          rw [← HW0.out]
          refine CL.out.mono ?_
          rintro e w1 ⟨rfl, rfl⟩
          go_wp2_with fail
          refine (awake_any _).mono ?_
          rintro e w8 ⟨rfl, hb12⟩
          go_wp2_with fail
          go_ret
          exact ⟨rfl, HE.out _ hb12⟩
        · have d3 : decide (W < a) = false := decide_eq_false haw
          have CM : Hid (Calls Try.prog 16 #[.int .i64 W, .slice (some ⟨W0.heap.size, 0, none⟩) 1 1] (W0.alloc (.cells #[.int .u64 1, .slice A l.length c] 25)) fun e w' => e = .returned (.bool (mayL W l)) ∧ Below (W0.heap.size + 1) (W0.alloc (.cells #[.int .u64 1, .slice A l.length c] 25)) w') :=
            Lib.hid (by have := mayFrags_any W l A c _ 0 1 (W0.alloc (.cells #[.int .u64 1, .slice A l.length c] 25)) (FC.of_blk (Blk.new _ _ _)) (by simp) ((HP.out.alloc (Nat.le_refl _) _).more (by simp)) (by omega); rwa [World.size_alloc] at this)
          by_cases hml : ¬ mayL W l = true
          · rw [(Bool.not_eq_true _).mp hml] at CM
            clear hml
            go_enter Try.func5, Try.ntmps5
            go_wp2_with fail
            rw [← HW0.out]
            refine CL.out.mono ?_
            rintro e w1 ⟨rfl, rfl⟩
            go_wp2_with fail
            refine CM.out.mono ?_
            rintro e wd ⟨rfl, hbd⟩
            have hbe : Below W0.heap.size W0 wd := ((Below.refl W0.heap.size W0).alloc (Nat.le_refl _) _).trans (hbd.mono (by simp))
            have HF4 := HF.out.below hbe hFl
            have g0 := HF4.cell 0
            have g1 := HF4.cell 1
            clear hbd HF4 f0 f1
            go_wp2_with fail
            refine (awake_any _).mono ?_
            rintro e w8 ⟨rfl, hb12⟩
            go_wp2_with fail
            go_ret
            exact ⟨rfl, HE.out _ (hbe.trans (hb12.mono hbe.size))⟩
          · have hmt : mayL W l = true := by simpa using hml
            rw [hmt] at CM
            obtain ⟨⟨hWl, hl5⟩, hnd, hnod⟩ := may_node hmt
            have HND := Lib.hid (nodup_of_nodes hnd)
            clear hml hmt hnd hnod
            by_cases hnf : n < first
            · have d4 : decide (n < first) = true := decide_eq_true hnf
              go_enter Try.func5, Try.ntmps5
              go_wp2_with fail
              rw [← HW0.out]
              refine CL.out.mono ?_
              rintro e w1 ⟨rfl, rfl⟩
              go_wp2_with fail
              refine CM.out.mono ?_
              rintro e wd ⟨rfl, hbd⟩
              have hbe : Below W0.heap.size W0 wd := ((Below.refl W0.heap.size W0).alloc (Nat.le_refl _) _).trans (hbd.mono (by simp))
              have HF4 := HF.out.below hbe hFl
              have g0 := HF4.cell 0
              have g1 := HF4.cell 1
              clear hbd HF4 f0 f1
              go_wp2_with fail
              refine (awake_any _).mono ?_
              rintro e w8 ⟨rfl, hb12⟩
              go_wp2_with fail
              go_ret
              exact ⟨rfl, HE.out _ (hbe.trans (hb12.mono hbe.size))⟩
            · have d4 : decide (n < first) = false := decide_eq_false hnf
              by_cases hnn : 1152921504606846976 < first
              · have d5 : decide (1152921504606846976 < first) = true := decide_eq_true hnn
                go_enter Try.func5, Try.ntmps5
                go_wp2_with fail
                rw [← HW0.out]
                refine CL.out.mono ?_
                rintro e w1 ⟨rfl, rfl⟩
                go_wp2_with fail
                refine CM.out.mono ?_
                rintro e wd ⟨rfl, hbd⟩
                have hbe : Below W0.heap.size W0 wd := ((Below.refl W0.heap.size W0).alloc (Nat.le_refl _) _).trans (hbd.mono (by simp))
                have HF4 := HF.out.below hbe hFl
                have g0 := HF4.cell 0
                have g1 := HF4.cell 1
                clear hbd HF4 f0 f1
                go_wp2_with fail
                refine (awake_any _).mono ?_
                rintro e w8 ⟨rfl, hb12⟩
                go_wp2_with fail
                go_ret
                exact ⟨rfl, HE.out _ (hbe.trans (hb12.mono hbe.size))⟩
              · have d5 : decide (1152921504606846976 < first) = false := decide_eq_false hnn
                go_enter Try.func5, Try.ntmps5
                go_wp2_with fail
                rw [← HW0.out]
                refine CL.out.mono ?_
                rintro e w1 ⟨rfl, rfl⟩
                go_wp2_with fail
                refine CM.out.mono ?_
                rintro e wd ⟨rfl, hbd⟩
                have hbe : Below W0.heap.size W0 wd := ((Below.refl W0.heap.size W0).alloc (Nat.le_refl _) _).trans (hbd.mono (by simp))
                have HF4 := HF.out.below hbe hFl
                have g0 := HF4.cell 0
                have g1 := HF4.cell 1
                clear hbd HF4 f0 f1
                have m0 := (HF.out.below hbe hFl).lt
                clear CL CM HW0 d1 d2 d3 d4 d5
                have hsq := setP_round (l := l) (i := 0) (show first ≤ n by omega) (show 1 ≤ W by omega) hWl
                have hsf : ∀ i : Nat, setP first l W (first + i) = round l ((0 + i) % l.length) W.toNat := fun i => by
                  have := setP_round (l := l) (i := i) (Int.le_refl first) (show 1 ≤ W by omega) hWl
                  simpa using this
                obtain ⟨m, rfl⟩ : ∃ m : Nat, W = m := ⟨W.toNat, by omega⟩
                rw [Int.toNat_natCast] at hsq hsf
                rw [show n + ((0 : Nat) : Int) = n by simp, Nat.add_zero] at hsq
                obtain ⟨q, hq⟩ : ∃ q : Nat, (n - first).toNat = q := ⟨_, rfl⟩
                rw [hq] at hsq
                have HSQ := Lib.hid hsq
                have HSF := Lib.hid hsf
                clear hsq hsf hq
                go_wp2_with fail
                have hba : Below wd.heap.size wd (wd.alloc (Obj.cells #[Value.int IntKind.u64 first, Value.slice A l.length c] 25)) := (Below.refl _ _).alloc (Nat.le_refl _) _
                have hb0a := hbe.trans (hba.mono hbe.size)
                have hPa := Lib.hid ((H.out.below (HE.out _ hb0a)).more (HE.out _ hb0a).size)
                refine (set_own (round l (q % l.length) m) m (round_len _ _ _) first n m l A l.length c wd.heap.size 0 1 _ rfl (FC.of_blk (Blk.new _ _ _)) hPa.out (by simp) (by omega) hf0 hn64 HSQ.out).mono ?_
                rintro e w5 ⟨A5, c5, rfl, hb5, hc51, hc52, ho5⟩
                have hb05 := hb0a.trans (hb5.mono hb0a.size)
                obtain ⟨R, hR⟩ : ∃ R, round l (q % l.length) m = R := ⟨_, rfl⟩
                have hRl : R.length = m := by rw [← hR]; exact round_len _ _ _
                rw [hR] at ho5
                have HR := Lib.hid hR
                have HRL := Lib.hid hRl
                obtain ⟨g5, rfl, hg5⟩ := own_addr ho5 (by omega)
                have hg5l := (ho5.lt g5 rfl).2
                have HR5 := Lib.hid (Reads.of_own ho5)
                have HP5 := Lib.hid ((H.out.below (HE.out _ hb05)).more (HE.out _ hb05).size)
                have HQ5 := Lib.hid ((H4.out.below (HE.out _ hb05)).more (HE.out _ hb05).size)
                have HF5 := Lib.hid (HF.out.below hb05 hFl)
                have hF5l := HF5.out.lt
                obtain ⟨i0, hi, hz0, hz1, hz2⟩ := info_parts info37
                clear ho5 hR hRl hba hPa hb0a hb5 g0 g1
                go_wp2_with fail
                go_loopw [14, 15, 16] (fun s t i wr => ∃ j : Nat, j ≤ m ∧ i = .int .i64 j ∧ ∃ T : List Pl, T.Sublist (R.take j) ∧ t = .bool (metB T fr) ∧ wr.ownsRow w5.heap.size 37 2 s T.length (T.flatMap Pl.cs) ∧ Below w5.heap.size w5 wr) (fun _ _ i _ => m - (intOf i).toNat)
                case atStart => exact ⟨0, Nat.zero_le _, rfl, [], by simp, rfl, ⟨rfl, .inl ⟨rfl, rfl⟩⟩, Below.refl _ _⟩
                case round =>
                  obtain ⟨j, hj, rfl, T, hT, rfl, hown, hbr⟩ := hrel
                  obtain ⟨A2, c2, rfl, hcc2, hcc3⟩ := own_form hown
                  have hTl : T.length ≤ 5 := by
                    have h1 := hT.length_le
                    rw [List.length_take] at h1
                    omega
                  have HT := Lib.hid hT
                  have HO := Lib.hid hown
                  clear hT hown
                  by_cases hlt : j < m
                  · obtain ⟨yn, ys, hy⟩ : ∃ yn ys, R[j]? = some ⟨yn, ys⟩ := ⟨_, _, List.getElem?_eq_getElem (by rw [HRL.out]; exact hlt)⟩
                    have hrr := HR5.out.below hbr
                    obtain ⟨b, o, yn', ys', hA, hBb, hy', y0, y1⟩ := pl_elem (l := R) (A := some ⟨g5, 0, none⟩) (B := w5.heap.size) (by unfold PR; rw [HRL.out]; exact hrr) (show j < R.length by rw [HRL.out]; exact hlt)
                    simp only [Option.some.injEq, Addr.mk.injEq, and_true] at hA
                    obtain ⟨rfl, rfl⟩ := hA
                    rw [hy] at hy'
                    simp only [Option.some.injEq, Pl.mk.injEq] at hy'
                    obtain ⟨rfl, rfl⟩ := hy'
                    rw [Nat.zero_add] at y0 y1
                    have hP1 := pr_one hrr HRL.out hy
                    rw [Nat.zero_add] at hP1
                    have HP1 := Lib.hid hP1
                    have HY := Lib.hid hy
                    have hts := take_snoc? hy
                    have HTS := Lib.hid hts
                    have hgr : g5 < wr.heap.size := Nat.lt_of_lt_of_le hg5l hbr.size
                    clear hy hrr hP1 hts
                    go_wp2_with (at_builtin; refine wpList_append_own _ rfl (.tmp 75) (.tmp 80) 23 rfl w5.heap.size 37 i0 _ 2 16 Try.underlying23 hi hz0 hz1 hz2 rfl (by decide) _ T.length _ rfl (HO.out.alloc _) ⟨wr.heap.size, 0, none⟩ 1 1 (Pl.cs ⟨yn, ys⟩) rfl rfl (pl_cell_new wr yn ys) (pl_one1 yn ys) (by simp only [maxLen]; omega) (by omega) (by have := hbr.size; simp; omega) ?_)
                    · intro v' w1 hown' hgrow _
                      have hb' : Below w5.heap.size w5 w1 := (hbr.alloc hbr.size _).grown hgrow (by have := hbr.size; simp; omega) (fun k hk => (HO.out.lt k hk).1)
                      have HT' : Hid ((T ++ [(⟨yn, ys⟩ : Pl)]).Sublist (R.take (j + 1))) := Lib.hid (by rw [HTS.out]; exact HT.out.append (List.Sublist.refl _))
                      obtain ⟨A3, c3, rfl, -, -⟩ := own_form hown'
                      have HO' : Hid (w1.ownsRow w5.heap.size 37 2 (.slice A3 (T.length + 1) c3) (T ++ [(⟨yn, ys⟩ : Pl)]).length ((T ++ [(⟨yn, ys⟩ : Pl)]).flatMap Pl.cs)) := Lib.hid (by rw [List.flatMap_append, List.flatMap_singleton, List.length_append]; exact hown')
                      have HPn := Lib.hid (((HR5.out.below hb')))
                      have hgn : g5 < w1.heap.size := Nat.lt_of_lt_of_le hg5l hb'.size
                      have HMS := Lib.hid (metB_snoc T fr ⟨yn, ys⟩)
                      have hP1 := pr_one HPn.out HRL.out HY.out
                      rw [Nat.zero_add] at hP1
                      have HP1 := Lib.hid hP1
                      clear hown' hgrow y0 y1 hP1
                      cases hmt : metB T fr with
                      | true =>
                        have HM := Lib.hid hmt
                        clear hmt
                        go_wp2_with fail
                        go_roundw
                        case rel => exact ⟨j + 1, by omega, by go_num, _, HT'.out, by rw [HMS.out, HM.out]; rfl, HO'.out, hb'⟩
                        case measure => simp [intOf]; omega
                      | false =>
                        have HM := Lib.hid hmt
                        clear hmt
                        go_wp2_with fail
                        have HQn := Lib.hid ((HQ5.out.below hb').more hb'.size)
                        by_cases hx : (⟨yn, ys⟩ : Pl) ∈ fr
                        · have hv : among [(⟨yn, ys⟩ : Pl)] fr = 1 := by rw [among_one, if_pos hx]
                          have hd : decide ((⟨yn, ys⟩ : Pl) ∈ fr) = true := decide_eq_true hx
                          have HD := Lib.hid hd
                          have C := Lib.hid (ramong_val 1 1 [(⟨yn, ys⟩ : Pl)] fr rfl hv (some ⟨g5, j * 2, none⟩) A4 (c5 - j) c4 w1 (HP1.out.more hb'.size) HQn.out (by omega) (by omega))
                          clear hv hd hx
                          refine C.out.mono ?_
                          rintro e w7 ⟨rfl, hb7⟩
                          have hb'' := hb'.trans (hb7.mono hb'.size)
                          have HO'' := Lib.hid (own_below HO'.out hb7)
                          clear C
                          go_wp2_with fail
                          go_roundw
                          case rel => exact ⟨j + 1, by omega, by go_num, _, HT'.out, by rw [HMS.out, HM.out, HD.out]; rfl, HO''.out, hb''⟩
                          case measure => simp [intOf]; omega
                        · have hv : among [(⟨yn, ys⟩ : Pl)] fr = 0 := by rw [among_one, if_neg hx]
                          have hd : decide ((⟨yn, ys⟩ : Pl) ∈ fr) = false := decide_eq_false hx
                          have HD := Lib.hid hd
                          have C := Lib.hid (ramong_val 0 1 [(⟨yn, ys⟩ : Pl)] fr rfl hv (some ⟨g5, j * 2, none⟩) A4 (c5 - j) c4 w1 (HP1.out.more hb'.size) HQn.out (by omega) (by omega))
                          clear hv hd hx
                          refine C.out.mono ?_
                          rintro e w7 ⟨rfl, hb7⟩
                          have hb'' := hb'.trans (hb7.mono hb'.size)
                          have HO'' := Lib.hid (own_below HO'.out hb7)
                          clear C
                          go_wp2_with fail
                          go_roundw
                          case rel => exact ⟨j + 1, by omega, by go_num, _, HT'.out, by rw [HMS.out, HM.out, HD.out]; rfl, HO''.out, hb''⟩
                          case measure => simp [intOf]; omega
                    · go_roundw
                      case rel => exact ⟨j + 1, by omega, by go_num, T, by rw [HTS.out]; exact HT.out.trans (List.sublist_append_left _ _), rfl, HO.out, hbr⟩
                      case measure => simp [intOf]; omega
                  · have hjm : j = m := by omega
                    subst hjm
                    have hbw : Below w.heap.size w wr := (HE.out _ hb05).trans (hbr.mono (by have := (HE.out _ hb05).size; omega))
                    have hbw0 : Below W0.heap.size W0 wr := hb05.trans (hbr.mono hb05.size)
                    have HFr := Lib.hid (HF5.out.below hbr hF5l)
                    have hFrl := HFr.out.lt
                    have HPr := Lib.hid ((HP5.out.below hbr).more hbr.size)
                    have HQr := Lib.hid ((HQ5.out.below hbr).more hbr.size)
                    have hTR : T.Sublist (round l (q % l.length) j) := by rw [HR.out]; exact HT.out.trans (List.take_sublist _ _)
                    have HTR := Lib.hid hTR
                    have g0 := HFr.out.cell 0
                    have g1 := HFr.out.cell 1
                    clear hTR
                    cases hcv : coverB l j a fr with
                    | true =>
                      have C := Lib.hid (covered_any first j a l fr A A4 c c4 _ wr HPr.out HQr.out (Nat.le_refl _) (by omega) (by omega) (by omega) (by omega) (by omega) (by omega))
                      rw [hcv] at C
                      have HC := Lib.hid hcv
                      clear hcv
                      go_wp2_with fail
                      refine C.out.mono ?_
                      rintro e w7 ⟨rfl, hb7⟩
                      clear g0 g1 C
                      have hb07 := hbw0.trans (hb7.mono hbw0.size)
                      cases hmt : metB T fr with
                      | true =>
                        clear hmt
                        go_wp2_with fail
                        all_goals
                          refine (awake_any _).mono ?_
                          rintro e w8 ⟨rfl, hb8⟩
                          go_wp2_with fail
                          go_ret
                          exact ⟨rfl, HE.out _ (hb07.trans (hb8.mono hb07.size))⟩
                      | false =>
                        have hshort := meets_cover HND.out (by omega) (by omega) (by omega) HC.out HTR.out (metB_no hmt)
                        have hd9 : decide ((T.length : Int) < a) = true := decide_eq_true hshort
                        clear hmt
                        go_wp2_with fail
                        refine (awake_any _).mono ?_
                        rintro e w8 ⟨rfl, hb8⟩
                        go_wp2_with fail
                        go_ret
                        exact ⟨rfl, HE.out _ (hb07.trans (hb8.mono hb07.size))⟩
                    | false =>
                      have C := Lib.hid (covered_any first j a l fr A A4 c c4 _ wr HPr.out HQr.out (Nat.le_refl _) (by omega) (by omega) (by omega) (by omega) (by omega) (by omega))
                      rw [hcv] at C
                      obtain ⟨k0, hk0, hk0b⟩ := some_short (show 1 ≤ j by omega) (show j ≤ l.length by omega) hcv
                      have HK0 := Lib.hid hk0b
                      clear hcv hk0b
                      go_wp2_with fail
                      refine C.out.mono ?_
                      rintro e w7 ⟨rfl, hb7⟩
                      have hb07 := hbw0.trans (hb7.mono hbw0.size)
                      clear g0 g1 C
                      go_wp2_with fail
                      have HF7 := Lib.hid (HFr.out.below hb7 hFrl)
                      have hF7l := HF7.out.lt
                      have HP7 := Lib.hid ((HPr.out.below hb7).more hb7.size)
                      have HQ7 := Lib.hid ((HQr.out.below hb7).more hb7.size)
                      clear HFr HPr HQr hFrl hb7 HP5 HQ5 HF5 HR5 HO
                      obtain ⟨wo, rfl⟩ : ∃ wo : World, wo = w7 := ⟨_, rfl⟩
                      go_loopw [17, 18] (fun i _ wr => ∃ t : Nat, t ≤ k0 ∧ i = .int .i64 t ∧ Below wo.heap.size wo wr) (fun i _ _ => l.length - (intOf i).toNat)
                      case atStart => exact ⟨0, Nat.zero_le _, rfl, Below.refl _ _⟩
                      case round =>
                        obtain ⟨t, ht, rfl, hbt⟩ := hrel
                        have hlt2 : t < l.length := by omega
                        have hFt := HF7.out.below hbt hF7l
                        have g0 := hFt.cell 0
                        have g1 := hFt.cell 1
                        have gl := hFt.lt
                        have HPt := Lib.hid ((HP7.out.below hbt).more hbt.size)
                        have hst := HSF.out t
                        rw [Nat.zero_add, Nat.mod_eq_of_lt hlt2] at hst
                        have HST := Lib.hid hst
                        have hft : first + t ≤ 18446744073709551615 := by omega
                        clear hFt hst
                        go_wp2_with fail
                        have hba : Below wr.heap.size wr (wr.alloc (Obj.cells #[Value.int IntKind.u64 first, Value.slice A l.length c] 25)) := (Below.refl _ _).alloc (Nat.le_refl _) _
                        refine (set_own (round l t j) j (round_len _ _ _) first (first + t) j l A l.length c wr.heap.size 0 1 _ rfl (FC.of_blk (Blk.new _ _ _)) ((HPt.out.below hba).more hba.size) (by simp) (by omega) hf0 hft HST.out).mono ?_
                        rintro e w9 ⟨A9, c9, rfl, hb9, hc91, hc92, ho9⟩
                        have hbr9 : Below wr.heap.size wr w9 := hba.trans (hb9.mono hba.size)
                        have hbo9 := hbt.trans (hbr9.mono hbt.size)
                        have HO9 := Lib.hid ho9
                        clear ho9 g0 g1 gl hba hb9
                        go_wp2_with fail
                        refine (ramong_val (among (round l t j) fr) j (round l t j) fr (round_len _ _ _) rfl A9 A4 c9 c4 w9 (Reads.of_own HO9.out) ((HQ7.out.below hbo9).more hbo9.size) (by omega) (by omega)).mono ?_
                        rintro e w10 ⟨rfl, hb10⟩
                        have hbo10 := hbo9.trans (hb10.mono hbo9.size)
                        have hau : among (round l t j) fr ≤ j := by
                          have := among_le (round l t j) fr
                          rwa [round_len] at this
                        cases hms : missB (round l t j) j a fr with
                        | true =>
                          have hnum := (miss_num (show a ≤ (j : Int) by omega)).1 hms
                          have hd7 : decide (a ≤ (j : Int) - (among (round l t j) fr : Nat)) = false := decide_eq_false (by omega)
                          have htk : t ≠ k0 := by
                            rintro rfl
                            have := HK0.out
                            rw [hms] at this
                            cases this
                          clear hms
                          go_wp2_with fail
                          go_roundw
                          case rel => exact ⟨t + 1, by omega, by go_num, hbo10⟩
                          case measure => simp [intOf]; omega
                        | false =>
                          have hnum : ¬ ((j : Int) - among (round l t j) fr < a) := fun h => by
                            have := (miss_num (show a ≤ (j : Int) by omega)).2 h
                            rw [hms] at this
                            cases this
                          have hd7 : decide (a ≤ (j : Int) - (among (round l t j) fr : Nat)) = true := decide_eq_true (by omega)
                          clear hms
                          go_wp2_with fail
                          refine (awake_any _).mono ?_
                          rintro e w11 ⟨rfl, hb11⟩
                          go_wp2_with fail
                          go_ret
                          have hbz := hb07.trans ((hbo10.trans (hb11.mono hbo10.size)).mono hb07.size)
                          exact ⟨rfl, HE.out _ hbz⟩
end Go.Proofs.Ytcmidhecmhbeoaa
