/- Chapter 05: the document's net: Find. -/
import Derived.Test.YtfmflbcmigiciaaRefD
namespace Go.Proofs.Ytfmflbcmigiciaa
open Go.RowKit

set_option maxHeartbeats 2000000 in
theorem rfind_any {w : World} {R : Nat → Prop} {M : Nat} {N : Int} {cut : Nat → Nat → Bool} {bag : List Msg} {K : Nat} (h : RefAt w R M N cut bag K) (hK : K ≤ 1000000) (tt i : Int) :
    Calls Try.prog 43 #[.pointer (some ⟨M, 0, none⟩), .int .i64 tt, .int .i64 i] w fun e w' => e = .returned (findV (findP N cut (bag.map fun m => (m.f, m.t)) tt i)) ∧ Below w.heap.size w w' := by
  have HH := Lib.hid h
  have hlen := h.len
  obtain ⟨Ab, cb, Ac, cc, rs, cl, h1, h2, h3, h4, h5, h6, h7⟩ := h.ex
  have H1 := Lib.hid h1
  have H3 := Lib.hid h3
  have hmr : MR w w.heap.size Ab rs := by unfold MR; rw [h3.1]; exact h2.1
  have HMR := Lib.hid hmr
  have hrl := h3.1
  have ml := h1.lt
  have hml : (bag.map fun m => (m.f, m.t)).length = bag.length := List.length_map ..
  clear h h1 h2 h3 h4 h5 h6 h7 hmr
  go_enter Try.func43, Try.ntmps43
  go_wp2_with fail
  go_loopw [8] (fun v wr => ∃ k : Nat, k ≤ bag.length ∧ v = .int .i64 k ∧ Below w.heap.size w wr ∧ ∀ j, i.toNat ≤ j → j < k → hitB N cut (bag.map fun m => (m.f, m.t)) tt j = false) (fun v _ => bag.length - (intOf v).toNat)
  case atStart => exact ⟨0, Nat.zero_le _, rfl, Below.refl _ _, fun j _ h => by omega⟩
  case round =>
    obtain ⟨k, hk, rfl, hbr, hno⟩ := hrel
    have hm := H1.out.below hbr ml
    have m1 := hm.cell 1
    have ml2 := hm.lt
    have HBR := Lib.hid hbr
    have HNO := Lib.hid hno
    by_cases hlt : k < bag.length
    · obtain ⟨b, o, f, t, rA, rn, rc, hA, hBb, hr, y0, y1, y2⟩ := raw_elem (HMR.out.below hbr) (show k < rs.length by omega)
      subst hA
      have hbb : b < wr.heap.size := by have := hbr.size; omega
      have hmk := (H3.out.2 k _ bag[k] hr (List.getElem?_eq_getElem hlt))
      have hf : f = bag[k].f := hmk.f
      have ht : t = bag[k].t := hmk.t
      have hhit : hitB N cut (bag.map fun m => (m.f, m.t)) tt k = (decide (t = tt) && openB N cut f tt) := by
        unfold hitB
        rw [List.getElem?_map, List.getElem?_eq_getElem hlt, hf, ht]
        rfl
      have HH' := Lib.hid hhit
      have hcont : (i.toNat ≤ k → hitB N cut (bag.map fun m => (m.f, m.t)) tt k = false) → ∀ j, i.toNat ≤ j → j < k + 1 → hitB N cut (bag.map fun m => (m.f, m.t)) tt j = false := fun h0 j h1 h2 => by
        rcases Nat.lt_or_ge j k with hh | hh
        · exact HNO.out j h1 hh
        · have hjk : j = k := by omega
          subst hjk; exact h0 h1
      have HC := Lib.hid hcont
      have O := Lib.hid (ropen_any (HH.out.below hbr) hK f tt)
      clear hm hbr hno hr hmk hf ht hhit hcont
      by_cases hik : i ≤ k
      · have d1 : decide (i ≤ (k : Int)) = true := decide_eq_true hik
        by_cases hte : t = tt
        · have d2 : (t == tt) = true := by simpa using hte
          have HTE := Lib.hid hte
          clear hte
          cases hop : openB N cut f tt with
          | true =>
            have HOP := Lib.hid hop
            clear hop
            rw [HOP.out] at O
            go_wp2_with fail
            refine O.out.mono ?_
            rintro e w2 ⟨rfl, hb⟩
            have HB := Lib.hid (HBR.out.trans (hb.mono HBR.out.size))
            clear hb O
            go_wp2_with fail
            refine bodyPost_ret (v := .tuple #[.int .i64 k, .bool true]) (by simp [results, Try.results43, go_sem]) rfl ?_
            refine ⟨?_, HB.out⟩
            rw [findP_some (by rw [hml]; exact hlt) (by omega) (by rw [HH'.out, HOP.out, decide_eq_true HTE.out]; rfl) HNO.out]
            rfl
          | false =>
            have HOP := Lib.hid hop
            clear hop
            rw [HOP.out] at O
            go_wp2_with fail
            refine O.out.mono ?_
            rintro e w2 ⟨rfl, hb⟩
            have HB := Lib.hid (HBR.out.trans (hb.mono HBR.out.size))
            clear hb O
            go_wp2_with fail
            go_roundw
            case rel => exact ⟨k + 1, by omega, by go_num, HB.out, HC.out fun _ => by rw [HH'.out, HOP.out]; simp⟩
            case measure => simp [intOf]; omega
        · have d2 : (t == tt) = false := by simpa using hte
          have HTE := Lib.hid hte
          clear hte O
          go_wp2_with fail
          go_roundw
          case rel => exact ⟨k + 1, by omega, by go_num, HBR.out, HC.out fun _ => by rw [HH'.out, decide_eq_false HTE.out]; rfl⟩
          case measure => simp [intOf]; omega
      · have d1 : decide (i ≤ (k : Int)) = false := decide_eq_false hik
        clear O
        go_wp2_with fail
        go_roundw
        case rel => exact ⟨k + 1, by omega, by go_num, HBR.out, HC.out fun h => by omega⟩
        case measure => simp [intOf]; omega
    · have hkl : k = bag.length := by omega
      clear hm hbr hno
      go_wp2_with fail
      refine bodyPost_ret (v := .tuple #[.int .i64 0, .bool false]) (by simp [results, Try.results43, go_sem]) rfl ?_
      refine ⟨?_, HBR.out⟩
      rw [findP_none (fun j h1 h2 => HNO.out j h1 (by rw [hml] at h2; omega))]
      rfl
end Go.Proofs.Ytfmflbcmigiciaa
