/- Chapter 05: a copy of a net goes its own way, and the same way. -/
import Derived.Test.YtfmflbcmigiciaaTwin
namespace Go.Proofs.Ytfmflbcmigiciaa
open Go.RowKit

set_option maxRecDepth 100000 in
set_option maxHeartbeats 8000000 in
theorem lawCopies_any (N : Int) (la lb : List ActM) (A B : Option Addr) (ca cb : Nat) (w : World) (ha : AR w w.heap.size A la) (hla : la.length ≤ maxLen) (hoka : ∀ x ∈ la, x.Ok w) (hb : AR w w.heap.size B lb) (hlb : lb.length ≤ maxLen) (hokb : ∀ x ∈ lb, x.Ok w) :
    Calls Try.prog 7 #[.int .i64 N, .slice A la.length ca, .slice B lb.length cb] w fun e w' => e = .returned (.bool true) ∧ Below w.heap.size w w' := by
  have HA := Lib.hid ha
  have HB := Lib.hid hb
  have HOA := Lib.hid hoka
  have HOB := Lib.hid hokb
  have HMA : Hid (∀ W, Below w.heap.size w W → _) := Lib.hid fun W hbW => many_any la A ca w.heap.size W (ha.below hbW) hbW.size (fun x hx => Nat.le_trans (hoka x hx).le (hoka x hx).cap) hla
  have HMB : Hid (∀ W, Below w.heap.size w W → _) := Lib.hid fun W hbW => many_any lb B cb w.heap.size W (hb.below hbW) hbW.size (fun x hx => Nat.le_trans (hokb x hx).le (hokb x hx).cap) hlb
  clear ha hb hoka hokb hla hlb
  go_enter Try.func7, Try.ntmps7
  go_wp2_with fail
  by_cases hN : 1 ≤ N ∧ N ≤ 15
  · have C := l1_new (w := w) hN.1 hN.2
    refine C.mono ?_
    rintro e w1 ⟨rfl, hl1⟩
    have L := Lib.hid hl1
    have HN := Lib.hid hN
    have CA := Lib.hid (HMA.out w1 hl1.below)
    have CB := Lib.hid (HMB.out w1 hl1.below)
    clear C hl1 HMA HMB hN
    go_wp2_with fail
    refine CA.out.mono ?_
    rintro e w2 ⟨hw, hor⟩
    subst hw
    rcases hor with rfl | ⟨rfl, hl6, hbs⟩
    · clear CA CB
      go_wp2_with fail
      refine (awake_any w1).mono ?_
      rintro e w3 ⟨rfl, hb⟩
      have HF := Lib.hid (L.out.below.trans (hb.mono L.out.below.size))
      clear hb
      go_wp2_with fail
      go_ret
      exact ⟨rfl, HF.out⟩
    · have HBA := Lib.hid hbs
      clear CA hbs
      go_wp2_with fail
      refine CB.out.mono ?_
      rintro e w2 ⟨hw, hor⟩
      subst hw
      rcases hor with rfl | ⟨rfl, hl7, hbs⟩
      · clear CB
        go_wp2_with fail
        refine (awake_any w1).mono ?_
        rintro e w3 ⟨rfl, hb⟩
        have HF := Lib.hid (L.out.below.trans (hb.mono L.out.below.size))
        clear hb
        go_wp2_with fail
        go_ret
        exact ⟨rfl, HF.out⟩
      · have HBB := Lib.hid hbs
        have CR := Lib.hid (L.out.ref HN.out.1 HN.out.2)
        clear CB hbs L HN
        go_wp2_with fail
        refine CR.out.mono ?_
        rintro e w2 ⟨M, rfl, hls⟩
        have L0 := Lib.hid hls
        clear CR hls
        generalize w.heap.size = G at L0 ⊢
        go_wp2_with fail
        go_loopw [10] (fun iv wr => ∃ j : Nat, j ≤ la.length ∧ iv = .int .i64 j ∧ LS w wr N G M j) (fun iv _ => la.length - (intOf iv).toNat)
        case atStart => exact ⟨0, Nat.zero_le _, rfl, L0.out⟩
        case round =>
          clear L0
          obtain ⟨j, hj, rfl, hls⟩ := hrel
          have T0 := Lib.hid hls
          clear hls
          by_cases hlt : j < la.length
          · have hbw := T0.out.below
            obtain ⟨b, o, x, hA, hBb, hx, hxe, y0, y1, y2, y3, y4⟩ := act_elem (HA.out.below hbw) hlt
            have hxm := List.mem_of_getElem? hx
            have hxr := (HOA.out x hxm).rd
            have hxl := HBA.out x hxm
            subst hA
            have hb : b < wr.heap.size := by have := hbw.size; omega
            have HXR := Lib.hid hxr
            have CA := Lib.hid (T0.out.act (by omega) x HXR.out hxl)
            clear hx hxe hxm hxr hbw T0
            go_wp2_with fail
            refine CA.out.mono ?_
            rintro e w3 ⟨rfl, hls⟩
            have T1 := Lib.hid hls
            clear CA hls
            go_wp2_with fail
            go_roundw
            case rel => exact ⟨j + 1, by omega, by go_num, T1.out⟩
            case measure => simp [intOf]; omega
          · have d1 : decide ((j : Int) < la.length) = false := decide_eq_false (by omega)
            have hjl : j = la.length := by omega
            subst hjl
            have CC := Lib.hid T0.out.copy3
            clear T0 HA HOA HBA
            go_wp2_with fail
            refine CC.out.mono ?_
            rintro e w3 ⟨G', s, rfl, hl3⟩
            obtain ⟨Ab, lbx, cbx, Ac, lcx, ccx, hk, hq⟩ := hl3.was
            obtain ⟨m0, m1, m2⟩ := blk_cell3 hk
            have ml := hk.lt
            have HQ := Lib.hid hq
            clear CC hl3 hq hk
            go_wp2_with fail
            have hqq := HQ.out (w3.alloc (.cells #[.int .i64 N, .slice Ab lbx cbx, .slice Ac lcx ccx] 64)) ((Below.refl _ _).alloc (Nat.le_refl _) _) (Blk.new _ _ _)
            generalize w3.alloc (.cells #[.int .i64 N, .slice Ab lbx cbx, .slice Ac lcx ccx] 64) = w4 at hqq ⊢
            clear HQ m0 m1 m2 ml
            generalize w3.heap.size = M' at hqq ⊢
            have Q0 := Lib.hid hqq
            clear hqq
            go_loopw [13] (fun iv wr => ∃ j : Nat, j ≤ lb.length ∧ iv = .int .i64 j ∧ LQ w wr N G M G' M' (la.length + j) la.length (runP N s (lb.take j)) s) (fun iv _ => lb.length - (intOf iv).toNat)
            case atStart => exact ⟨0, Nat.zero_le _, rfl, Q0.out⟩
            case round =>
              clear Q0
              obtain ⟨j, hj, rfl, hls⟩ := hrel
              have T0 := Lib.hid hls
              clear hls
              by_cases hlt : j < lb.length
              · have hbw := T0.out.below
                obtain ⟨b, o, x, hA, hBb, hx, hxe, y0, y1, y2, y3, y4⟩ := act_elem (HB.out.below hbw) hlt
                have hxm := List.mem_of_getElem? hx
                have hxr := (HOB.out x hxm).rd
                have hxl := HBB.out x hxm
                subst hA
                have hb : b < wr.heap.size := by have := hbw.size; omega
                have HXR := Lib.hid hxr
                have HRS := Lib.hid (runP_snoc (N := N) (s := s) hx)
                have CA := Lib.hid (T0.out.act (by omega) x HXR.out hxl)
                clear hx hxe hxm hxr hbw T0
                go_wp2_with fail
                refine CA.out.mono ?_
                rintro e w5 ⟨rfl, hls⟩
                rw [← HRS.out] at hls
                have T1 := Lib.hid hls
                clear CA hls
                go_wp2_with fail
                go_roundw
                case rel => exact ⟨j + 1, by omega, by go_num, T1.out⟩
                case measure => simp [intOf]; omega
              · have d1 : decide ((j : Int) < lb.length) = false := decide_eq_false (by omega)
                have hjl : j = lb.length := by omega
                subst hjl
                have hls := T0.out
                rw [List.take_length] at hls
                have CC := Lib.hid (hls.swap.stands (by omega))
                clear T0 hls
                go_wp2_with fail
                refine CC.out.mono ?_
                rintro e w5 ⟨rfl, hls⟩
                have Q1 := Lib.hid hls
                clear CC hls
                go_wp2_with fail
                go_loopw [14] (fun iv wr => ∃ j : Nat, j ≤ lb.length ∧ iv = .int .i64 j ∧ LQ w wr N G' M' G M (la.length + j) (la.length + lb.length) (runP N s (lb.take j)) (runP N s lb)) (fun iv _ => lb.length - (intOf iv).toNat)
                case atStart => exact ⟨0, Nat.zero_le _, rfl, Q1.out⟩
                case round =>
                  clear Q1
                  obtain ⟨j, hj, rfl, hls⟩ := hrel
                  have T0 := Lib.hid hls
                  clear hls
                  by_cases hlt : j < lb.length
                  · have hbw := T0.out.below
                    obtain ⟨b, o, x, hA, hBb, hx, hxe, y0, y1, y2, y3, y4⟩ := act_elem (HB.out.below hbw) hlt
                    have hxm := List.mem_of_getElem? hx
                    have hxr := (HOB.out x hxm).rd
                    have hxl := HBB.out x hxm
                    subst hA
                    have hb : b < wr.heap.size := by have := hbw.size; omega
                    have HXR := Lib.hid hxr
                    have HRS := Lib.hid (runP_snoc (N := N) (s := s) hx)
                    have CA := Lib.hid (T0.out.act (by omega) x HXR.out hxl)
                    clear hx hxe hxm hxr hbw T0
                    go_wp2_with fail
                    refine CA.out.mono ?_
                    rintro e w5 ⟨rfl, hls⟩
                    rw [← HRS.out] at hls
                    have T1 := Lib.hid hls
                    clear CA hls
                    go_wp2_with fail
                    go_roundw
                    case rel => exact ⟨j + 1, by omega, by go_num, T1.out⟩
                    case measure => simp [intOf]; omega
                  · have d1 : decide ((j : Int) < lb.length) = false := decide_eq_false (by omega)
                    have hjl : j = lb.length := by omega
                    subst hjl
                    have hls := T0.out
                    rw [List.take_length] at hls
                    have CC := Lib.hid (hls.cross (by omega))
                    clear T0 hls HB HOB HBB
                    go_wp2_with fail
                    refine CC.out.mono ?_
                    rintro e w5 ⟨rfl, hls⟩
                    have CD := Lib.hid (hls.swap.cross (by omega))
                    clear CC hls
                    go_wp2_with fail
                    refine CD.out.mono ?_
                    rintro e w6 ⟨rfl, hls⟩
                    have CE := Lib.hid (awake_any w6)
                    have HBL := Lib.hid hls.below
                    clear CD hls
                    go_wp2_with fail
                    refine CE.out.mono ?_
                    rintro e w7 ⟨rfl, hb⟩
                    have HF := Lib.hid (HBL.out.trans (hb.mono HBL.out.size))
                    clear CE hb HBL
                    go_wp2_with fail
                    go_ret
                    exact ⟨rfl, HF.out⟩
  · have C1 := new_no N w hN
    clear HMA HMB hN
    refine C1.mono ?_
    rintro e w1 ⟨rfl, hw⟩
    subst hw
    clear C1
    go_wp2_with fail
    refine (awake_any w).mono ?_
    rintro e w3 ⟨rfl, hb⟩
    have HF := Lib.hid hb
    clear hb
    go_wp2_with fail
    go_ret
    exact ⟨rfl, HF.out⟩
end Go.Proofs.Ytfmflbcmigiciaa
