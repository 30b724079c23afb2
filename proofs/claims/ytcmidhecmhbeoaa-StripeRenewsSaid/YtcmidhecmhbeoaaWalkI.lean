/- Chapter 14: how many of a set are among others, by the reference. -/
import Derived.Test.YtcmidhecmhbeoaaWalkH
namespace Go.Proofs.Ytcmidhecmhbeoaa
open Go.RowKit

theorem notin_snocP {l : List Pl} {j : Nat} {x y : Pl} (h : l.take (j + 1) = l.take j ++ [x]) : (!decide (y ∈ l.take (j + 1))) = (!decide (y ∈ l.take j) && !decide (x = y)) := by
  rw [h]
  rw [Bool.eq_iff_iff]
  simp only [Bool.not_eq_true', decide_eq_false_iff_not, List.mem_append, List.mem_singleton, not_or, Bool.and_eq_true]
  exact ⟨fun h => ⟨h.1, fun e => h.2 e.symm⟩, fun h => ⟨h.1, fun e => h.2 e.symm⟩⟩
theorem in_snocP {l : List Pl} {j : Nat} {x y : Pl} (h : l.take (j + 1) = l.take j ++ [x]) : decide (y ∈ l.take (j + 1)) = (decide (y ∈ l.take j) || decide (x = y)) := by
  rw [h]
  rw [Bool.eq_iff_iff]
  simp only [decide_eq_true_eq, List.mem_append, List.mem_singleton, Bool.or_eq_true]
  exact ⟨fun h => h.imp id Eq.symm, fun h => h.imp id Eq.symm⟩

set_option maxHeartbeats 2000000 in
theorem ramong_any (l fr : List Pl) (A A2 : Option Addr) (cap cap2 : Nat) (B : Nat) (w : World) (h : PR w B A l) (h2 : PR w B A2 fr) (hB : B ≤ w.heap.size) (hl : l.length ≤ 100000) (hl2 : fr.length ≤ 100000) :
    Calls Try.prog 19 #[.slice A l.length cap, .slice A2 fr.length cap2] w fun e w' => e = .returned (.int .i64 (among l fr : Nat)) ∧ Below w.heap.size w w' := by
  have h := h.more hB
  have h2 := h2.more hB
  clear hB
  go_enter Try.func19, Try.ntmps19
  go_wp2
  go_loopw [5, 6, 7, 8, 9, 10] (fun n i _ _ _ _ wr => ∃ m : Nat, m ≤ l.length ∧ i = .int .i64 m ∧ n = .int .i64 (among (l.take m) fr : Nat) ∧ Below w.heap.size w wr) (fun _ i _ _ _ _ _ => l.length - (intOf i).toNat)
  case atStart => exact ⟨0, Nat.zero_le _, rfl, rfl, Below.refl _ _⟩
  case round =>
    obtain ⟨m, hm, rfl, rfl, hb⟩ := hrel
    have hal : among (l.take m) fr ≤ 100000 := by have := among_le (l.take m) fr; simp at this; omega
    by_cases hlt : m < l.length
    · obtain ⟨b, o, yn, ys, rfl, hB, hy, y0, y1⟩ := pl_elem (h.below hb) hlt
      have hts := take_snoc? hy
      have has := among_snoc (l.take m) fr ⟨yn, ys⟩
      rw [← hts] at has
      have hsz := hb.size
      have HAS := Lib.hid has
      have H := Lib.hid h
      have H2 := Lib.hid h2
      clear has hts hy h h2
      go_wp2_with fail
      obtain ⟨wo, rfl⟩ : ∃ wo : World, wo = wr := ⟨_, rfl⟩
      go_loopw [7, 8] (fun g k wr => ∃ j : Nat, j ≤ m ∧ k = .int .i64 j ∧ g = .bool (!decide ((⟨yn, ys⟩ : Pl) ∈ l.take j)) ∧ Below wo.heap.size wo wr) (fun _ k _ => m - (intOf k).toNat)
      case atStart => exact ⟨0, Nat.zero_le _, rfl, by simp, Below.refl _ _⟩
      case round =>
        obtain ⟨j, hj, rfl, rfl, hb2⟩ := hrel
        have hsz2 := hb2.size
        have p0 : wr.cell? ⟨b, o + m * 2, none⟩ = some (.int .i64 yn) := (hb2.cell (p := ⟨b, o + m * 2, none⟩) (by simp; omega)).trans y0
        have p1 : wr.cell? ⟨b, o + m * 2 + 1, none⟩ = some (.int .u64 ys) := (hb2.cell (p := ⟨b, o + m * 2 + 1, none⟩) (by simp; omega)).trans y1
        by_cases hjl : j < m
        · obtain ⟨b', o', zn, zs, hA, hB', hz, x0, x1⟩ := pl_elem (H.out.below (hb.trans (hb2.mono hsz))) (show j < l.length by omega)
          injection hA with hA
          injection hA with hA1 hA2
          subst hA1 hA2
          have hns := notin_snocP (y := ⟨yn, ys⟩) (take_snoc? hz)
          have hE := run_neP zn zs yn ys
          obtain ⟨gb, hgb⟩ : ∃ gb, (!decide ((⟨yn, ys⟩ : Pl) ∈ l.take j)) = gb := ⟨_, rfl⟩
          obtain ⟨ge, hge⟩ : ∃ ge, decide ((⟨zn, zs⟩ : Pl) = ⟨yn, ys⟩) = ge := ⟨_, rfl⟩
          rw [hge] at hE
          rw [hgb, hge] at hns
          rw [hgb]
          have HNS := Lib.hid hns
          clear hz hns hgb hge
          cases gb with
          | false =>
            go_wp2_with fail
            go_quiet (fail)
            go_wp2_with fail
            go_roundw
            case rel => exact ⟨j + 1, by omega, by go_num, by rw [HNS.out]; rfl, belowN hb2 _⟩
            case measure => simp [intOf]; omega
          | true =>
            go_wp2_with fail
            go_quiet (fail)
            go_wp2_with fail
            go_roundw
            case rel => exact ⟨j + 1, by omega, by go_num, by rw [HNS.out]; simp, belowN hb2 _⟩
            case measure => simp [intOf]; omega
        · have hjm : j = m := by omega
          subst hjm
          obtain ⟨d1, hd1⟩ : ∃ d, (!decide ((⟨yn, ys⟩ : Pl) ∈ l.take j)) = d := ⟨_, rfl⟩
          have hb3 := hb.trans (hb2.mono hsz)
          rw [hd1]
          clear hb hb2 y0 y1 hsz
          go_wp2_with fail
          have hsz3 := hb3.size
          obtain ⟨wq, rfl⟩ : ∃ wq : World, wq = wr := ⟨_, rfl⟩
          go_loopw [9, 10] (fun g k wr => ∃ q : Nat, q ≤ fr.length ∧ k = .int .i64 q ∧ g = .bool (decide ((⟨yn, ys⟩ : Pl) ∈ fr.take q)) ∧ Below wq.heap.size wq wr) (fun _ k _ => fr.length - (intOf k).toNat)
          case atStart => exact ⟨0, Nat.zero_le _, rfl, by simp, Below.refl _ _⟩
          case round =>
            obtain ⟨q, hq, rfl, rfl, hb4⟩ := hrel
            have hsz4 := hb4.size
            have q0 : wr.cell? ⟨b, o + j * 2, none⟩ = some (.int .i64 yn) := (hb4.cell (p := ⟨b, o + j * 2, none⟩) (by simp; omega)).trans p0
            have q1 : wr.cell? ⟨b, o + j * 2 + 1, none⟩ = some (.int .u64 ys) := (hb4.cell (p := ⟨b, o + j * 2 + 1, none⟩) (by simp; omega)).trans p1
            by_cases hql : q < fr.length
            · obtain ⟨b', o', zn, zs, hA, hB', hz, x0, x1⟩ := pl_elem (H2.out.below (hb3.trans (hb4.mono hsz3))) hql
              subst hA
              have hns := in_snocP (y := ⟨yn, ys⟩) (take_snoc? hz)
              have hE := run_eqP zn zs yn ys
              obtain ⟨gb, hgb⟩ : ∃ gb, decide ((⟨yn, ys⟩ : Pl) ∈ fr.take q) = gb := ⟨_, rfl⟩
              obtain ⟨ge, hge⟩ : ∃ ge, decide ((⟨zn, zs⟩ : Pl) = ⟨yn, ys⟩) = ge := ⟨_, rfl⟩
              rw [hge] at hE
              rw [hgb, hge] at hns
              rw [hgb]
              have HNS := Lib.hid hns
              clear hz hns hgb hge
              cases gb with
              | false =>
                go_wp2_with fail
                go_quiet (fail)
                go_wp2_with fail
                go_roundw
                case rel => exact ⟨q + 1, by omega, by go_num, by rw [HNS.out]; rfl, belowN hb4 _⟩
                case measure => simp [intOf]; omega
              | true =>
                go_wp2_with fail
                go_quiet (fail)
                go_wp2_with fail
                go_roundw
                case rel => exact ⟨q + 1, by omega, by go_num, by rw [HNS.out]; rfl, belowN hb4 _⟩
                case measure => simp [intOf]; omega
            · have hqm : fr.take q = fr := by rw [List.take_of_length_le]; omega
              rw [hqm]
              have hb5 := hb3.trans (hb4.mono hsz3)
              obtain ⟨d2, hd2⟩ : ∃ d, decide ((⟨yn, ys⟩ : Pl) ∈ fr) = d := ⟨_, rfl⟩
              have has : among (l.take (j + 1)) fr = among (l.take j) fr + if d2 = true ∧ d1 = true then 1 else 0 := by
                rw [HAS.out, ← hd1, ← hd2]; simp
              rw [hd2]
              have HAS := Lib.hid has
              clear has hd2 hd1 hb4 hb3 p0 p1 q0 q1 hqm
              cases d1 with
              | false =>
                go_wp2_with fail
                go_roundw
                case rel => exact ⟨j + 1, by omega, by go_num, by rw [HAS.out]; simp, hb5⟩
                case measure => simp [intOf]; omega
              | true =>
                cases d2 with
                | false =>
                  go_wp2_with fail
                  go_roundw
                  case rel => exact ⟨j + 1, by omega, by go_num, by rw [HAS.out]; simp, hb5⟩
                  case measure => simp [intOf]; omega
                | true =>
                  go_wp2_with fail
                  go_roundw
                  case rel => exact ⟨j + 1, by omega, by go_num, by rw [HAS.out]; simp only [and_self, if_true]; go_num, hb5⟩
                  case measure => simp [intOf]; omega
    · have hml : l.take m = l := by rw [List.take_of_length_le]; omega
      rw [hml]
      clear h h2 hml
      go_wp2_with fail
      go_ret
      exact ⟨rfl, hb⟩
end Go.Proofs.Ytcmidhecmhbeoaa
