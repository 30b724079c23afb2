/- Chapter 14: whether two fragments are the same. -/
import Derived.Test.YtcmidhecmhbeoaaWalkM
namespace Go.Proofs.Ytcmidhecmhbeoaa
open Go.RowKit

set_option maxHeartbeats 2000000 in
theorem sameFrags_any (first first2 : Int) (l r : List Pl) (A A2 : Option Addr) (c c2 g o k1 g2 o2 k2 : Nat) (w : World) (hf : FC w g o first A l.length c) (hf2 : FC w g2 o2 first2 A2 r.length c2) (hg : g < w.heap.size) (hg2 : g2 < w.heap.size)
    (h : PR w w.heap.size A l) (h2 : PR w w.heap.size A2 r) (hr : r.length ≤ 100000) :
    Calls Try.prog 15 #[.slice (some ⟨g, o, none⟩) 1 k1, .slice (some ⟨g2, o2, none⟩) 1 k2] w fun e w' => e = .returned (.bool (decide (first = first2 ∧ l = r))) ∧ Below w.heap.size w w' := by
  have HF := Lib.hid hf
  have HF2 := Lib.hid hf2
  have H := Lib.hid h
  have H2 := Lib.hid h2
  clear h h2 hf hf2
  obtain ⟨f0, f1⟩ := HF.out
  obtain ⟨f2, f3⟩ := HF2.out
  by_cases he : first = first2
  · have hne : (first != first2) = false := by simp [he]
    by_cases hlen : l.length = r.length
    · have hne2 : ((l.length : Int) != r.length) = false := by simp [hlen]
      have HE := Lib.hid he
      clear he
      go_enter Try.func15, Try.ntmps15
      go_wp2
      go_loopw [5, 6] (fun i _ wr => Below w.heap.size w wr ∧ (i = .int .i64 0 ∨ (i = .int .i64 1 ∧ l = r))) (fun i _ _ => (1 - intOf i).toNat)
      case atStart => exact ⟨Below.refl _ _, .inl rfl⟩
      case round =>
        obtain ⟨hb, rfl | ⟨rfl, hlr⟩⟩ := hrel
        · clear f0 f1 f2 f3
          obtain ⟨f0, f1⟩ := HF.out.below hb hg
          obtain ⟨f2, f3⟩ := HF2.out.below hb hg2
          have hsz := hb.size
          go_wp2_with fail
          go_quiet (fail)
          go_wp2_with fail
          have hbN := belowN hb nq
          generalize wr.drewN nq = wo at hbN ⊢
          clear hb f0 f1 f2 f3 hsz
          go_loopw [6] (fun k wr => ∃ m : Nat, m ≤ l.length ∧ k = .int .i64 m ∧ l.take m = r.take m ∧ Below w.heap.size w wr) (fun k _ => l.length - (intOf k).toNat)
          case atStart => exact ⟨0, Nat.zero_le _, rfl, by simp, hbN⟩
          case round =>
            obtain ⟨m, hm, rfl, hn, hb⟩ := hrel
            clear hbN
            obtain ⟨f0, f1⟩ := HF.out.below hb hg
            obtain ⟨f2, f3⟩ := HF2.out.below hb hg2
            have hsz := hb.size
            by_cases hlt : m < l.length
            · obtain ⟨b, o', yn, ys, rfl, hB, hy, y0, y1⟩ := pl_elem (H.out.below hb) hlt
              obtain ⟨b2, o2', zn, zs, rfl, hB2, hz, z0, z1⟩ := pl_elem (H2.out.below hb) (show m < r.length by omega)
              have hts := take_snoc? hy
              have htz := take_snoc? hz
              have hE := run_neP yn ys zn zs
              have HN := Lib.hid hn
              have HY := Lib.hid hy
              have HZ := Lib.hid hz
              have HT := Lib.hid hts
              have HT2 := Lib.hid htz
              clear hn hy hts hz htz
              by_cases hep : (⟨yn, ys⟩ : Pl) = ⟨zn, zs⟩
              · rw [decide_eq_true hep] at hE
                have HEP := Lib.hid hep
                clear hep
                go_wp2_with fail
                go_quiet (fail)
                go_wp2_with fail
                go_roundw
                case rel => exact ⟨m + 1, by omega, by go_num, by rw [HT.out, HT2.out, HN.out, HEP.out], belowN hb _⟩
                case measure => simp [intOf]; omega
              · rw [decide_eq_false hep] at hE
                have HEP := Lib.hid hep
                clear hep
                go_wp2_with fail
                go_quiet (fail)
                go_wp2_with fail
                go_ret
                exact ⟨ret_bool (decide_eq_false (fun hh => ne_of_at HY.out HZ.out HEP.out hh.2)).symm, belowN hb _⟩
            · have hml : l.take m = l := by rw [List.take_of_length_le]; omega
              have hmr : r.take m = r := by rw [List.take_of_length_le]; omega
              rw [hml, hmr] at hn
              have HN := Lib.hid hn
              clear hn hml hmr
              go_wp2_with fail
              go_roundw
              case rel => exact ⟨hb, .inr ⟨rfl, HN.out⟩⟩
              case measure => simp [intOf]
        · clear f0 f1 f2 f3
          have HLR := Lib.hid hlr
          clear hlr
          go_wp2_with fail
          go_ret
          exact ⟨ret_bool (decide_eq_true ⟨HE.out, HLR.out⟩).symm, hb⟩
    · have hne2 : ((l.length : Int) != r.length) = true := by simp; omega
      have HNE := Lib.hid (show ¬ (first = first2 ∧ l = r) from fun hh => hlen (by rw [hh.2]))
      clear he hlen
      go_enter Try.func15, Try.ntmps15
      go_wp2
      go_loopw [5, 6] (fun i _ wr => wr = w ∧ i = .int .i64 0) (fun i _ _ => (1 - intOf i).toNat)
      case atStart => exact ⟨rfl, rfl⟩
      case round =>
        obtain ⟨rfl, rfl⟩ := hrel
        go_wp2_with fail
        go_quiet (fail)
        go_wp2_with fail
        go_ret
        exact ⟨ret_bool (decide_eq_false HNE.out).symm, belowN (Below.refl _ _) _⟩
  · have hne : (first != first2) = true := by simp [he]
    have HNE := Lib.hid (show ¬ (first = first2 ∧ l = r) from fun hh => he hh.1)
    clear he
    go_enter Try.func15, Try.ntmps15
    go_wp2
    go_loopw [5, 6] (fun i _ wr => wr = w ∧ i = .int .i64 0) (fun i _ _ => (1 - intOf i).toNat)
    case atStart => exact ⟨rfl, rfl⟩
    case round =>
      obtain ⟨rfl, rfl⟩ := hrel
      go_wp2_with fail
      go_quiet (fail)
      go_wp2_with fail
      go_ret
      exact ⟨ret_bool (decide_eq_false HNE.out).symm, belowN (Below.refl _ _) _⟩
end Go.Proofs.Ytcmidhecmhbeoaa
