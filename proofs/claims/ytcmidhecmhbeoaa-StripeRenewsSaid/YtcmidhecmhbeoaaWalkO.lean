/- Chapter 14: whether a fragment may be. -/
import Derived.Test.YtcmidhecmhbeoaaWalkN
namespace Go.Proofs.Ytcmidhecmhbeoaa
open Go.RowKit

def mayL (W : Int) (l : List Pl) : Bool := decide (W ≤ l.length ∧ l.length ≤ 5 ∧ (∀ x ∈ l, mayPl x = true) ∧ (l.map (·.n)).Nodup)

set_option maxHeartbeats 2000000 in
set_option maxRecDepth 100000 in
theorem mayFrags_any (W : Int) (l : List Pl) (A : Option Addr) (c g o k1 : Nat) (w : World) (hf : FC w g o 1 A l.length c) (hg : g < w.heap.size) (h : PR w w.heap.size A l) (hl : l.length ≤ 100000) :
    Calls Try.prog 16 #[.int .i64 W, .slice (some ⟨g, o, none⟩) 1 k1] w fun e w' => e = .returned (.bool (mayL W l)) ∧ Below w.heap.size w w' := by
  have HF := Lib.hid hf
  have H := Lib.hid h
  clear h hf
  obtain ⟨f0, f1⟩ := HF.out
  by_cases hbad : (l.length : Int) < W ∨ 5 < l.length
  · have hd : mayL W l = false := decide_eq_false (fun hh => by have := hh.1; have := hh.2.1; omega)
    rw [hd]
    have hor : (l.length : Int) < W ∨ (¬ (l.length : Int) < W ∧ 5 < l.length) := by omega
    clear hd hbad
    have hor2 : ∃ d1 d2, decide ((l.length : Int) < W) = d1 ∧ decide ((5 : Int) < l.length) = d2 ∧ (d1 = true ∨ (d1 = false ∧ d2 = true)) := ⟨_, _, rfl, rfl, by simp only [decide_eq_true_eq, decide_eq_false_iff_not]; omega⟩
    obtain ⟨d1, d2, hd1, hd2, h12⟩ := hor2
    clear hor
    rcases h12 with rfl | ⟨rfl, rfl⟩
    all_goals
      go_enter Try.func16, Try.ntmps16
      go_wp2
      go_loopw [5, 6, 7, 8] (fun i _ _ _ wr => wr = w ∧ i = .int .i64 0) (fun i _ _ _ _ => (1 - intOf i).toNat)
      case atStart => exact ⟨rfl, rfl⟩
      case round =>
        obtain ⟨rfl, rfl⟩ := hrel
        go_wp2_with fail
        go_quiet (fail)
        go_wp2_with fail
        go_ret
        exact ⟨rfl, belowN (Below.refl _ _) _⟩
  · have hw1 : W ≤ l.length := by omega
    have hw2 : l.length ≤ 5 := by omega
    have hw3 : decide ((l.length : Int) < W) = false := decide_eq_false (by omega)
    have hw4 : decide ((5 : Int) < l.length) = false := decide_eq_false (by omega)
    clear hbad
    go_enter Try.func16, Try.ntmps16
    go_wp2
    go_loopw [5, 6, 7, 8] (fun i _ _ _ wr => Below w.heap.size w wr ∧ (i = .int .i64 0 ∨ (i = .int .i64 1 ∧ (∀ x ∈ l, mayPl x = true) ∧ (l.map (·.n)).Nodup))) (fun i _ _ _ _ => (1 - intOf i).toNat)
    case atStart => exact ⟨Below.refl _ _, .inl rfl⟩
    case round =>
      obtain ⟨hb, rfl | ⟨rfl, h1, h2⟩⟩ := hrel
      · clear f0 f1
        obtain ⟨f0, f1⟩ := HF.out.below hb hg
        have hsz := hb.size
        go_wp2_with fail
        go_quiet (fail)
        go_wp2_with fail
        have hbN := belowN hb nq
        generalize wr.drewN nq = wo at hbN ⊢
        clear hb f0 f1 hsz
        go_loopw [7, 8] (fun k _ wr => ∃ m : Nat, m ≤ l.length ∧ k = .int .i64 m ∧ (∀ x ∈ l.take m, mayPl x = true) ∧ ((l.take m).map (·.n)).Nodup ∧ Below w.heap.size w wr) (fun k _ _ => l.length - (intOf k).toNat)
        case atStart => exact ⟨0, Nat.zero_le _, rfl, by simp, by simp, hbN⟩
        case round =>
          obtain ⟨m, hm, rfl, hall, hnd, hb⟩ := hrel
          clear hbN
          have HA := Lib.hid hall
          have HD := Lib.hid hnd
          clear hall hnd
          have hsz := hb.size
          by_cases hlt : m < l.length
          · obtain ⟨b, o', yn, ys, rfl, hB, hy, y0, y1⟩ := pl_elem (H.out.below hb) hlt
            have hts := take_snoc? hy
            have hmem := List.mem_of_getElem? hy
            have HMEM := Lib.hid hmem
            have HT := Lib.hid hts
            clear hy hts hmem
            obtain ⟨d, hd⟩ : ∃ d, mayPl ⟨yn, ys⟩ = d := ⟨_, rfl⟩
            have HDD := Lib.hid hd
            clear hd
            go_wp2_with fail
            refine (mayPlace_any yn ys wr).mono ?_
            rintro e w1 ⟨rfl, hb1⟩
            rw [HDD.out]
            have hb2 := hb.trans (hb1.mono hsz)
            have q0 : w1.cell? ⟨b, o' + m * 2, none⟩ = some (.int .i64 yn) := (hb1.cell (p := ⟨b, o' + m * 2, none⟩) (by simp; omega)).trans y0
            clear hb1 hb y0 y1
            cases d with
            | false =>
              go_wp2_with fail
              go_ret
              exact ⟨ret_bool (decide_eq_false (fun hh => by have := hh.2.2.1 _ HMEM.out; rw [HDD.out] at this; cases this)).symm, hb2⟩
            | true =>
              have hsz1 := hb2.size
              go_wp2_with fail
              obtain ⟨wq, rfl⟩ : ∃ wq : World, wq = w1 := ⟨_, rfl⟩
              go_loopw [8] (fun k wr => ∃ j : Nat, j ≤ m ∧ k = .int .i64 j ∧ yn ∉ (l.take j).map (·.n) ∧ Below wq.heap.size wq wr) (fun k _ => m - (intOf k).toNat)
              case atStart => exact ⟨0, Nat.zero_le _, rfl, by simp, Below.refl _ _⟩
              case round =>
                obtain ⟨j, hj, rfl, hn, hb3⟩ := hrel
                have hsz3 := hb3.size
                have p0 : wr.cell? ⟨b, o' + m * 2, none⟩ = some (.int .i64 yn) := (hb3.cell (p := ⟨b, o' + m * 2, none⟩) (by simp; omega)).trans q0
                have HN := Lib.hid hn
                clear hn
                by_cases hjl : j < m
                · obtain ⟨b', o'', zn, zs, hA, hB', hz, x0, x1⟩ := pl_elem (H.out.below (hb2.trans (hb3.mono hsz1))) (show j < l.length by omega)
                  injection hA with hA
                  injection hA with hA1 hA2
                  subst hA1 hA2
                  have htz := take_snoc? hz
                  have hmz : zn ∈ (l.take m).map (·.n) := List.mem_map.2 ⟨⟨zn, zs⟩, List.mem_of_getElem? (by rw [List.getElem?_take_of_lt hjl]; exact hz), rfl⟩
                  have HZ := Lib.hid htz
                  have HMZ := Lib.hid hmz
                  clear hz htz hmz
                  by_cases he : zn = yn
                  · have he' : (zn == yn) = true := by simp [he]
                    have HE := Lib.hid he
                    clear he
                    go_wp2_with fail
                    go_quiet (fail)
                    go_wp2_with fail
                    go_ret
                    refine ⟨ret_bool (decide_eq_false (fun hh => ?_)).symm, belowN (hb2.trans (hb3.mono hsz1)) _⟩
                    have hnd := hh.2.2.2
                    have hsub : ((l.take (m + 1)).map (·.n)).Nodup := by
                      have := hnd.sublist ((List.take_sublist (m + 1) l).map (·.n))
                      exact this
                    rw [HT.out, List.map_append, List.nodup_append] at hsub
                    exact hsub.2.2 zn HMZ.out yn (by simp) HE.out
                  · have he' : (zn == yn) = false := by simp [he]
                    have HE := Lib.hid he
                    clear he
                    go_wp2_with fail
                    go_quiet (fail)
                    go_wp2_with fail
                    go_roundw
                    case rel => exact ⟨j + 1, by omega, by go_num, by rw [HZ.out]; simp only [List.map_append, List.mem_append, List.map_cons, List.map_nil, List.mem_singleton, not_or]; exact ⟨HN.out, fun e => HE.out e.symm⟩, belowN hb3 _⟩
                    case measure => simp [intOf]; omega
                · have hjm : j = m := by omega
                  subst hjm
                  have hb4 := hb2.trans (hb3.mono hsz1)
                  go_wp2_with fail
                  go_roundw
                  case rel =>
                    refine ⟨j + 1, by omega, by go_num, ?_, ?_, hb4⟩
                    · rw [HT.out]
                      intro x hx
                      rcases List.mem_append.1 hx with hx | hx
                      · exact HA.out x hx
                      · rw [List.mem_singleton.1 hx]; exact HDD.out
                    · rw [HT.out, List.map_append, List.nodup_append]
                      exact ⟨HD.out, by simp, fun a ha b hb' => by
                        simp at hb'
                        subst hb'
                        rintro rfl
                        exact HN.out ha⟩
                  case measure => simp [intOf]; omega
          · have hml : l.take m = l := by rw [List.take_of_length_le]; omega
            rw [hml] at HA HD
            clear hml
            have hme : m = l.length := by omega
            subst hme
            clear hlt hm hw1 hw2 hw3 hw4
            go_wp2_with fail
            go_roundw
            case rel => exact ⟨hb, .inr ⟨rfl, HA.out, HD.out⟩⟩
            case measure => simp [intOf]
      · have H1 := Lib.hid h1
        have H2 := Lib.hid h2
        clear h1 h2
        go_wp2_with fail
        go_ret
        exact ⟨ret_bool (decide_eq_true ⟨hw1, hw2, H1.out, H2.out⟩).symm, hb⟩
end Go.Proofs.Ytcmidhecmhbeoaa
