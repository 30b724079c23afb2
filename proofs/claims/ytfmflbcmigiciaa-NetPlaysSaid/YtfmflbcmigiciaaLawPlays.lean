/- Chapter 05: whatever is done to a net and its copies, the document's law stands. -/
import Derived.Test.YtfmflbcmigiciaaPlay
namespace Go.Proofs.Ytfmflbcmigiciaa
open Go.RowKit

set_option maxRecDepth 100000 in
set_option maxHeartbeats 8000000 in
theorem lawPlays_any (N : Int) (l : List ActM) (A : Option Addr) (c : Nat) (w : World) (h : AR w w.heap.size A l) (hl : l.length ≤ maxLen) (hok : ∀ x ∈ l, x.Ok w) :
    Calls Try.prog 5 #[.int .i64 N, .slice A l.length c] w fun e w' => e = .returned (.bool true) ∧ Below w.heap.size w w' := by
  have H := Lib.hid h
  have HOK := Lib.hid hok
  have HM := Lib.hid (many_any l A c w.heap.size w h (Nat.le_refl _) (fun x hx => Nat.le_trans (hok x hx).le (hok x hx).cap) hl)
  clear h hok hl
  go_enter Try.func5, Try.ntmps5
  go_wp2_with fail
  refine HM.out.mono ?_
  rintro e w1 ⟨hw, hor⟩
  subst hw
  rcases hor with rfl | ⟨rfl, hl6, hbs⟩
  · clear HM
    go_wp2_with fail
    refine (awake_any w).mono ?_
    rintro e w3 ⟨rfl, hb⟩
    have HB := Lib.hid hb
    clear hb
    go_wp2_with fail
    go_ret
    exact ⟨rfl, HB.out⟩
  · have HBS := Lib.hid hbs
    clear HM hbs
    by_cases hN : 1 ≤ N ∧ N ≤ 15
    · have C := Lib.hid (ls_news (w := w) hN.1 hN.2)
      clear hN
      go_wp2_with fail
      refine C.out.mono ?_
      rintro e w1 ⟨rfl, hr⟩
      have C2 := Lib.hid hr
      clear C hr
      go_wp2_with fail
      refine C2.out.mono ?_
      rintro e w2 ⟨M, rfl, hls⟩
      have L0 := Lib.hid hls
      clear C2 hls
      go_wp2_with fail
      go_loopw [5, 8] (fun nv iv wr => ∃ (j G : Nat), j ≤ l.length ∧ iv = .int .i64 j ∧ nv = .pointer (some ⟨G, 0, none⟩) ∧ LS w wr N G M j) (fun _ iv _ => l.length - (intOf iv).toNat)
      case atStart => exact ⟨0, _, Nat.zero_le _, rfl, rfl, L0.out⟩
      case round =>
        clear L0
        obtain ⟨j, G, hj, rfl, rfl, hls⟩ := hrel
        have T0 := Lib.hid hls
        clear hls
        by_cases hlt : j < l.length
        · have hbw := T0.out.below
          obtain ⟨b, o, x, hA, hBb, hx, hxe, y0, y1, y2, y3, y4⟩ := act_elem (H.out.below hbw) hlt
          have hxm := List.mem_of_getElem? hx
          have hxr := (HOK.out x hxm).rd
          have hxl := HBS.out x hxm
          subst hA
          have hb : b < wr.heap.size := by have := hbw.size; omega
          have HXR := Lib.hid hxr
          clear hx hxe hxm hxr hbw
          by_cases d6 : x.d = 6
          · have e6 : (x.d == 6) = true := by simpa using d6
            have CC := Lib.hid T0.out.copy
            clear T0 d6
            go_wp2_with fail
            refine CC.out.mono ?_
            rintro e w1 ⟨G', rfl, hlc⟩
            have CD := Lib.hid (hlc.drop 0)
            clear CC hlc
            go_wp2_with fail
            refine CD.out.mono ?_
            rintro e w2 ⟨⟨r, rfl⟩, hlc⟩
            have CE := Lib.hid (hlc.cut 1 2)
            clear CD hlc
            go_wp2_with fail
            refine CE.out.mono ?_
            rintro e w3 ⟨⟨r2, rfl⟩, hlc⟩
            have T2 := Lib.hid (hlc.done.moreK (Nat.le_succ j))
            clear CE hlc
            go_wp2_with fail
            go_roundw
            case rel => exact ⟨j + 1, G', by omega, by go_num, rfl, T2.out⟩
            case measure => simp [intOf]; omega
          · have e6 : (x.d == 6) = false := by simpa using d6
            have CA := Lib.hid (T0.out.act (by omega) x HXR.out hxl)
            clear T0 d6
            go_wp2_with fail
            refine CA.out.mono ?_
            rintro e w1 ⟨rfl, hls⟩
            have T1 := Lib.hid hls
            have CS := Lib.hid (hls.stands (by omega))
            clear CA hls
            go_wp2_with fail
            case roundEnd => exact ⟨⟨j + 1, G, by omega, by go_num, rfl, T1.out⟩, by simp [intOf]; omega⟩
            case isTrue =>
              refine CS.out.mono ?_
              rintro e w2 ⟨rfl, hls⟩
              have T2 := Lib.hid hls
              clear CS hls T1
              go_wp2_with fail
              go_roundw
              case rel => exact ⟨j + 1, G, by omega, by go_num, rfl, T2.out⟩
              case measure => simp [intOf]; omega
        · have d1 : decide ((j : Int) < l.length) = false := decide_eq_false (by omega)
          have CS := Lib.hid (T0.out.stands (by omega))
          clear T0
          go_wp2_with fail
          refine CS.out.mono ?_
          rintro e w1 ⟨rfl, hls⟩
          have CW := Lib.hid hls.awake
          clear CS hls
          go_wp2_with fail
          refine CW.out.mono ?_
          rintro e w2 ⟨rfl, hls⟩
          have HB := Lib.hid hls.below
          clear CW hls
          go_wp2_with fail
          go_ret
          exact ⟨rfl, HB.out⟩
    · have C1 := Lib.hid (new_no N w hN)
      have C2 := Lib.hid (rnew_no N w hN)
      clear hN
      go_wp2_with fail
      refine C1.out.mono ?_
      rintro e w1 ⟨rfl, hw⟩
      subst hw
      clear C1
      go_wp2_with fail
      refine C2.out.mono ?_
      rintro e w1 ⟨rfl, hw⟩
      subst hw
      clear C2
      go_wp2_with fail
      refine (awake_any w).mono ?_
      rintro e w3 ⟨rfl, hb⟩
      have HB := Lib.hid hb
      clear hb
      go_wp2_with fail
      go_ret
      exact ⟨rfl, HB.out⟩
end Go.Proofs.Ytfmflbcmigiciaa
