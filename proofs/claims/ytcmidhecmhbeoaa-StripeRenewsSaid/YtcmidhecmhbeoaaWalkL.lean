/- Chapter 14: whether a fragment is covered, by the reference; the example's fragment. -/
import Derived.Test.YtcmidhecmhbeoaaWalkK
namespace Go.Proofs.Ytcmidhecmhbeoaa
open Go.RowKit

set_option maxHeartbeats 400000 in
theorem place_any (n : Int) (w : World) : Calls Try.prog 33 #[.int .i64 n] w fun e w' => e = .returned (.agg #[.int .i64 n, .int .u64 1]) ∧ Below w.heap.size w w' := by
  go_enter Try.func33, Try.ntmps33
  go_wp2_with fail
  refine bodyPost_ret (v := .agg #[.int .i64 n, .int .u64 1]) (by simp [results, Try.results33, go_sem]) rfl ⟨rfl, ?_⟩
  exact (Below.refl _ _).alloc (Nat.le_refl _) _

def threeL : List Pl := [⟨7, 1⟩, ⟨8, 1⟩, ⟨9, 1⟩]
set_option maxHeartbeats 400000 in
theorem three_any (w : World) : Calls Try.prog 32 #[] w fun e w' => ∃ g, e = .returned (.agg #[.int .u64 3, .slice (some ⟨g, 0, none⟩) 3 3]) ∧ Below w.heap.size w w' ∧ Blk w' g 37 #[.int .i64 7, .int .u64 1, .int .i64 8, .int .u64 1, .int .i64 9, .int .u64 1] ∧ w.heap.size ≤ g := by
  have hb := (Below.refl w.heap.size w).alloc (Nat.le_refl _) (.cells #[.int .u64 0, .slice none 0 0] 25)
  have hk := Blk.new w 25 #[.int .u64 0, .slice none 0 0]
  go_enter Try.func32, Try.ntmps32
  go_wp2_with fail
  refine (place_any 7 _).mono ?_
  rintro e w1 ⟨rfl, hb1⟩
  have hbb1 := hb.trans (hb1.mono hb.size)
  have hk1 := hk.below hb1 hk.lt
  go_wp2_with fail
  refine (place_any 8 _).mono ?_
  rintro e w2 ⟨rfl, hb2⟩
  have hbb2 := hbb1.trans (hb2.mono hbb1.size)
  have hk2 := hk1.below hb2 hk1.lt
  go_wp2_with fail
  refine (place_any 9 _).mono ?_
  rintro e w3 ⟨rfl, hb3⟩
  have hbb3 := hbb2.trans (hb3.mono hbb2.size)
  have hk3 := hk2.below hb3 hk2.lt
  have hl3 := hk3.lt
  have hf3 := hk3.frozen
  have hs3 := hbb3.size
  obtain ⟨a0, a1⟩ := blk_cell2 hk3
  have hn := Blk.new ((w3.setCell ⟨w.heap.size, 0, none⟩ (.int .u64 3)).setCell ⟨w.heap.size, 1, none⟩ (.slice (some ⟨w3.heap.size, 0, none⟩) 3 3)) 37 #[.int .i64 7, .int .u64 1, .int .i64 8, .int .u64 1, .int .i64 9, .int .u64 1]
  simp only [size_setCell] at hn
  clear hb hk hb1 hb2 hb3 hbb1 hbb2 hk1 hk2 hk3
  go_wp2_with fail
  refine bodyPost_ret (v := .agg #[.int .u64 3, .slice (some ⟨w3.heap.size, 0, none⟩) 3 3]) (by simp [results, Try.results32, go_sem, a0, a1, hl3]) rfl ⟨w3.heap.size, rfl, ?_, hn, hs3⟩
  exact (below_set2 hbb3 (Nat.le_refl _) _ _).alloc (by simp only [size_setCell]; exact hs3) _

set_option maxHeartbeats 2000000 in
theorem rcovered_any (first W a : Int) (l fr : List Pl) (A A2 : Option Addr) (c cap2 : Nat) (B : Nat) (w : World) (h : PR w B A l) (h2 : PR w B A2 fr) (hB : B ≤ w.heap.size) (hl : l.length ≤ 100000) (hr : fr.length ≤ 100000)
    (hw1 : -1000000 ≤ W) (hw2 : W ≤ 1000000) (ha1 : -1000000 ≤ a) (ha2 : a ≤ 1000000) :
    Calls Try.prog 26 #[.agg #[.int .u64 first, .slice A l.length c], .int .i64 W, .int .i64 a, .slice A2 fr.length cap2] w fun e w' => e = .returned (.bool (coverB l W a fr)) ∧ Below w.heap.size w w' := by
  have h := h.more hB
  have h2 := h2.more hB
  clear hB
  by_cases hW : 1 ≤ W ∧ W ≤ l.length
  · obtain ⟨hW1, hW2⟩ := hW
    have hb0 := (Below.refl w.heap.size w).alloc (Nat.le_refl _) (.cells #[.int .u64 first, .slice A l.length c] 25)
    have hk0 := Blk.new w 25 #[.int .u64 first, .slice A l.length c]
    have H := Lib.hid h
    have H2 := Lib.hid h2
    clear h h2
    go_enter Try.func26, Try.ntmps26
    go_wp2_with fail
    clear hb0 hk0
    go_loopw [9] (fun k wr => ∃ m : Nat, m ≤ l.length ∧ k = .int .i64 (m + 1 : Nat) ∧ Blk wr w.heap.size 25 #[.int .u64 1, .slice A l.length c] ∧ Below w.heap.size w wr ∧ ∀ j, j < m → missB (round l j W.toNat) W a fr = true) (fun k _ => l.length + 1 - (intOf k).toNat)
    case atStart => exact ⟨0, Nat.zero_le _, rfl, Blk.new _ _ _, (Below.refl w.heap.size w).alloc (Nat.le_refl _) _, fun j hj => by omega⟩
    case round =>
      obtain ⟨m, hm, rfl, hk, hb, hall⟩ := hrel
      have hlk := hk.lt
      have hsz := hb.size
      obtain ⟨a0, a1⟩ := blk_cell2 hk
      have HA := Lib.hid hall
      have HK := Lib.hid hk
      clear hall hk
      by_cases hlt : m < l.length
      · have hset : setP 1 l W ((m : Int) + 1) = round l m W.toNat := by
          unfold setP
          rw [if_neg (by omega), show ((m : Int) + 1 - 1) % (l.length : Int) = m by rw [show (m : Int) + 1 - 1 = m by omega]; exact Int.emod_eq_of_lt (by omega) (by omega)]
          rfl
        have hb1 := hb.alloc hb.size (.cells #[.int .u64 1, .slice A l.length c] 25)
        have hn := Blk.new wr 25 #[.int .u64 1, .slice A l.length c]
        have S := rset_any 1 ((m : Int) + 1) W l A c wr.heap.size 0 1 (wr.alloc (.cells #[.int .u64 1, .slice A l.length c] 25)) (FC.of_blk hn) ((H.out.below hb1).more hb1.size) hl (by omega) (by omega)
        rw [hset] at S
        have HS := Lib.hid S
        have HK1 := Lib.hid (HK.out.alloc (.cells #[.int .u64 1, .slice A l.length c] 25))
        clear S hn hset HK
        go_wp2_with fail
        refine HS.out.mono ?_
        rintro e w1 ⟨A', c', rfl, hb2, hc1, hc2, ho2⟩
        have hb3 := hb1.trans (hb2.mono hb1.size)
        have hk3 := HK1.out.below hb2 HK1.out.lt
        have hps : PR w1 w1.heap.size A' (round l m W.toNat) := Reads.of_own ho2
        have hlr : (round l m W.toNat).length ≤ 100000 := by rw [round_len]; omega
        obtain ⟨d, hd⟩ : ∃ d, missB (round l m W.toNat) W a fr = d := ⟨_, rfl⟩
        have M := rmissing_any (round l m W.toNat) fr W a A' A2 c' cap2 w1.heap.size w1 hps ((H2.out.below hb3).more hb3.size) (Nat.le_refl _) hlr hr hw1 hw2 ha1 ha2
        rw [hd] at M
        have HD := Lib.hid hd
        have HM := Lib.hid M
        have HK3 := Lib.hid hk3
        have hlk3 := hk3.lt
        clear hd M hk3 hps HS HK1 hb2 ho2 hb1 a0 a1
        go_wp2_with fail
        refine HM.out.mono ?_
        rintro e w2 ⟨rfl, hb4⟩
        have hb5 := hb3.trans (hb4.mono hb3.size)
        have HK5 := Lib.hid (HK3.out.below hb4 hlk3)
        clear HM hb4 hb3 HK3
        cases d with
        | true =>
          go_wp2_with fail
          go_roundw
          case rel => exact ⟨m + 1, by omega, by go_num, HK5.out, hb5, fun j hj => by
            rcases Nat.lt_or_ge j m with hh | hh
            · exact HA.out j hh
            · rw [show j = m by omega]; exact HD.out⟩
          case measure => simp [intOf]; omega
        | false =>
          go_wp2_with fail
          go_ret
          refine ⟨ret_bool (decide_eq_false (fun hh => ?_)).symm, hb5⟩
          have := hh.2.2 m hlt
          rw [HD.out] at this
          cases this
      · have hc : coverB l W a fr = true := decide_eq_true ⟨hW1, hW2, fun k hk => HA.out k (by omega)⟩
        have HC := Lib.hid hc
        clear hc
        go_wp2_with fail
        go_ret
        exact ⟨ret_bool HC.out.symm, hb⟩
  · have hc : coverB l W a fr = false := decide_eq_false (fun hh => hW ⟨hh.1, hh.2.1⟩)
    rw [hc]
    clear hc h h2
    by_cases h1 : W < 1
    · clear hW
      go_enter Try.func26, Try.ntmps26
      go_wp2_with fail
      go_ret
      exact ⟨rfl, (Below.refl _ _).alloc (Nat.le_refl _) _⟩
    · have h3 : (l.length : Int) < W := by omega
      clear hW
      go_enter Try.func26, Try.ntmps26
      go_wp2_with fail
      go_ret
      exact ⟨rfl, (Below.refl _ _).alloc (Nat.le_refl _) _⟩
end Go.Proofs.Ytcmidhecmhbeoaa
