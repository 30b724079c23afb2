/- Chapter 14: which places the reference picks. -/
import Derived.Test.YtcmidhecmhbeoaaWalkG
namespace Go.Proofs.Ytcmidhecmhbeoaa
open Go.RowKit

theorem not_in_snoc {l : List Int} {j : Nat} {x y : Int} (h : l.take (j + 1) = l.take j ++ [x]) : (!decide (y ∈ l.take (j + 1))) = (!decide (y ∈ l.take j) && (x != y)) := by
  rw [h]
  rw [Bool.eq_iff_iff]
  simp only [Bool.not_eq_true', decide_eq_false_iff_not, List.mem_append, List.mem_singleton, not_or, Bool.and_eq_true, bne_iff_ne, ne_eq]
  exact ⟨fun h => ⟨h.1, fun e => h.2 e.symm⟩, fun h => ⟨h.1, fun e => h.2 e.symm⟩⟩

set_option maxHeartbeats 2000000 in
theorem rpick_any (l : List Pl) (nt : List Int) (e W : Int) (A A2 : Option Addr) (cap cap2 : Nat) (B : Nat) (w : World) (h : PR w B A l) (h2 : Reads w B 1 A2 nt.length (nt.map (.int .i64))) (hB : B ≤ w.heap.size) (hl : l.length ≤ 100000) (hl2 : nt.length ≤ 100000) :
    Calls Try.prog 28 #[.slice A l.length cap, .int .i64 e, .int .i64 W, .slice A2 nt.length cap2] w fun e' w' => GivesE w (pickP l e W nt) e' w' := by
  obtain ⟨i0, hi, hz0, hz1, hz2⟩ := info_parts info37
  have h := h.more hB
  have h2 := h2.more hB
  clear hB
  by_cases hbad : W < 1 ∨ e < W ∨ 5 < e
  · have hp : pickP l e W nt = ([], 1) := by unfold pickP; rw [if_pos hbad]
    rw [hp]
    clear h h2 hp
    by_cases h1 : W < 1
    · clear hbad
      go_enter Try.func28, Try.ntmps28
      go_wp2_with fail
      refine bodyPost_ret (v := .tuple #[.slice none 0 0, .int .i64 1]) (by simp [results, Try.results28, go_sem]) rfl (givesE_nil 1 (Below.refl _ _))
    · by_cases h2 : e < W
      · clear hbad
        go_enter Try.func28, Try.ntmps28
        go_wp2_with fail
        refine bodyPost_ret (v := .tuple #[.slice none 0 0, .int .i64 1]) (by simp [results, Try.results28, go_sem]) rfl (givesE_nil 1 (Below.refl _ _))
      · have h3 : 5 < e := by omega
        clear hbad
        go_enter Try.func28, Try.ntmps28
        go_wp2_with fail
        refine bodyPost_ret (v := .tuple #[.slice none 0 0, .int .i64 1]) (by simp [results, Try.results28, go_sem]) rfl (givesE_nil 1 (Below.refl _ _))
  · have hp : pickP l e W nt = if ((pickL e nt l).length : Int) < W then ([], 3) else (pickL e nt l, 0) := by unfold pickP; rw [if_neg hbad]
    have HPP := Lib.hid hp
    have hw1 : 1 ≤ W := by omega
    have hw2 : W ≤ e := by omega
    have hw3 : e ≤ 5 := by omega
    clear hp hbad
    go_enter Try.func28, Try.ntmps28
    go_wp2
    go_loopw [10, 11, 12, 13, 14] (fun s i _ _ _ wr => ∃ m : Nat, m ≤ l.length ∧ i = .int .i64 m ∧ wr.ownsRow w.heap.size 37 2 s (pickL e nt (l.take m)).length ((pickL e nt (l.take m)).flatMap Pl.cs) ∧ Below w.heap.size w wr) (fun _ i _ _ _ _ => l.length - (intOf i).toNat)
    case atStart => exact ⟨0, Nat.zero_le _, rfl, ⟨rfl, .inl ⟨rfl, rfl⟩⟩, Below.refl _ _⟩
    case round =>
      obtain ⟨m, hm, rfl, hown, hb⟩ := hrel
      obtain ⟨A3, c3, rfl, hc2, hc3⟩ := own_form hown
      obtain ⟨P, hP⟩ : ∃ P, pickL e nt (l.take m) = P := ⟨_, rfl⟩
      have hPl : P.length ≤ 100000 := by rw [← hP]; have := pickL_len e nt (l.take m); simp at this; omega
      by_cases hlt : m < l.length
      · obtain ⟨b, o, yn, ys, rfl, hB, hy, y0, y1⟩ := pl_elem (h.below hb) hlt
        have hts := take_snoc? hy
        have hps := pickL_snoc e nt (l.take m) ⟨yn, ys⟩
        rw [← hts, hP] at hps
        unfold pstep at hps
        rw [hP] at hown hc2 ⊢
        have hsz := hb.size
        have HPS := Lib.hid hps
        have HO := Lib.hid hown
        have H2 := Lib.hid h2
        clear hP hts hps hown hy h h2
        go_wp2_with fail
        obtain ⟨d1, hd1⟩ : ∃ d, decide ((P.length : Int) < e) = d := ⟨_, rfl⟩
        rw [hd1]
        have hd1' := hd1
        obtain ⟨wo, rfl⟩ : ∃ wo : World, wo = wr := ⟨_, rfl⟩
        go_loopw [12, 13] (fun g k wr => ∃ j : Nat, j ≤ nt.length ∧ k = .int .i64 j ∧ g = .bool (d1 && !decide (yn ∈ nt.take j)) ∧ Below wo.heap.size wo wr) (fun _ k _ => nt.length - (intOf k).toNat)
        case atStart => exact ⟨0, Nat.zero_le _, rfl, by simp, Below.refl _ _⟩
        case round =>
          obtain ⟨j, hj, rfl, rfl, hb2⟩ := hrel
          have q0 : wr.cell? ⟨b, o + m * 2, none⟩ = some (.int .i64 yn) := (hb2.cell (p := ⟨b, o + m * 2, none⟩) (by simp; omega)).trans y0
          by_cases hjl : j < nt.length
          · obtain ⟨b', o', hA, hB', hc⟩ := (H2.out.below (hb.trans (hb2.mono hsz))).lit (by simp; omega)
            subst hA
            obtain ⟨x, hx⟩ : ∃ x, nt[j]? = some x := ⟨_, List.getElem?_eq_getElem hjl⟩
            have x0 := hc j _ (by rw [List.getElem?_map, hx]; rfl)
            have hns := not_in_snoc (y := yn) (take_snoc? hx)
            have hsz2 := hb2.size
            have HNS := Lib.hid hns
            clear hx hc hns
            obtain ⟨gb, hgb⟩ : ∃ gb, (d1 && !decide (yn ∈ nt.take j)) = gb := ⟨_, rfl⟩
            rw [hgb]
            have HG := Lib.hid hgb
            clear hgb
            cases gb with
            | false =>
              go_wp2_with fail
              go_quiet (fail)
              go_wp2_with fail
              go_roundw
              case rel => exact ⟨j + 1, by omega, by go_num, by rw [HNS.out, ← Bool.and_assoc, HG.out]; rfl, belowN hb2 _⟩
              case measure => simp [intOf]; omega
            | true =>
              go_wp2_with fail
              go_quiet (fail)
              go_wp2_with fail
              go_roundw
              case rel => exact ⟨j + 1, by omega, by go_num, by rw [HNS.out, ← Bool.and_assoc, HG.out]; simp, belowN hb2 _⟩
              case measure => simp [intOf]; omega
          · have hjm : nt.take j = nt := by rw [List.take_of_length_le]; omega
            rw [hjm]
            clear hjm
            have hb3 := hb.trans (hb2.mono hsz)
            have HO3 := Lib.hid (own_below HO.out hb2)
            have hsz3 := hb3.size
            have hy1 : wr.cell? ⟨b, o + m * 2 + 1, none⟩ = some (.int .u64 ys) := (hb2.cell (p := ⟨b, o + m * 2 + 1, none⟩) (by simp; omega)).trans y1
            obtain ⟨d3, hd3⟩ : ∃ d, (d1 && !decide (yn ∈ nt)) = d := ⟨_, rfl⟩
            rw [hd3]
            go_wp2_with fail
            clear HO H2 hb hb2 y0 y1 hsz hd1
            obtain ⟨wq, rfl⟩ : ∃ wq : World, wq = wr := ⟨_, rfl⟩
            go_loopw [12, 14] (fun g k wr => ∃ j : Nat, j ≤ P.length ∧ k = .int .i64 j ∧ g = .bool (d3 && !decide (yn ∈ (P.map (·.n)).take j)) ∧ Below wq.heap.size wq wr) (fun _ k _ => P.length - (intOf k).toNat)
            case atStart => exact ⟨0, Nat.zero_le _, rfl, by simp, Below.refl _ _⟩
            case round =>
              obtain ⟨j, hj, rfl, rfl, hb2⟩ := hrel
              have hsz2 := hb2.size
              have p0 : wr.cell? ⟨b, o + m * 2, none⟩ = some (.int .i64 yn) := (hb2.cell (p := ⟨b, o + m * 2, none⟩) (by simp; omega)).trans q0
              have p1 : wr.cell? ⟨b, o + m * 2 + 1, none⟩ = some (.int .u64 ys) := (hb2.cell (p := ⟨b, o + m * 2 + 1, none⟩) (by simp; omega)).trans hy1
              have HO := Lib.hid (own_below HO3.out hb2)
              by_cases hjl : j < P.length
              · obtain ⟨b', o', zn, zs, hA, hB', hz, x0, x1⟩ := pl_elem (Reads.of_own HO.out) hjl
                subst hA
                have hz' : (P.map (·.n))[j]? = some zn := by rw [List.getElem?_map, hz]; rfl
                have hns := not_in_snoc (y := yn) (take_snoc? hz')
                have HNS := Lib.hid hns
                clear hz hz' hns
                obtain ⟨gb, hgb⟩ : ∃ gb, (d3 && !decide (yn ∈ (P.map (·.n)).take j)) = gb := ⟨_, rfl⟩
                rw [hgb]
                have HG := Lib.hid hgb
                clear hgb
                cases gb with
                | false =>
                  go_wp2_with fail
                  go_quiet (fail)
                  go_wp2_with fail
                  go_roundw
                  case rel => exact ⟨j + 1, by omega, by go_num, by rw [HNS.out, ← Bool.and_assoc, HG.out]; rfl, belowN hb2 _⟩
                  case measure => simp [intOf]; omega
                | true =>
                  go_wp2_with fail
                  go_quiet (fail)
                  go_wp2_with fail
                  go_roundw
                  case rel => exact ⟨j + 1, by omega, by go_num, by rw [HNS.out, ← Bool.and_assoc, HG.out]; simp, belowN hb2 _⟩
                  case measure => simp [intOf]; omega
              · have hjm : (P.map (·.n)).take j = P.map (·.n) := by rw [List.take_of_length_le]; simp; omega
                rw [hjm]
                clear hjm
                have hb4 := hb3.trans (hb2.mono hsz3)
                have hsz4 := hb4.size
                obtain ⟨d4, hd4⟩ : ∃ d, (d3 && !decide (yn ∈ P.map (·.n))) = d := ⟨_, rfl⟩
                have hps := HPS.out
                rw [hd1', Bool.and_assoc, Bool.and_comm (!decide (yn ∈ P.map (·.n))), ← Bool.and_assoc, hd3, hd4] at hps
                rw [hd4]
                clear HO3 HPS hb2 hb3 hd3 hd4 q0 hy1
                cases d4 with
                | false =>
                  rw [if_neg (by simp)] at hps
                  have HPS := Lib.hid hps
                  clear hps
                  go_wp2_with fail
                  go_roundw
                  case rel => exact ⟨m + 1, by omega, by go_num, by rw [HPS.out]; exact HO.out, hb4⟩
                  case measure => simp [intOf]; omega
                | true =>
                  rw [if_pos rfl] at hps
                  have HPS := Lib.hid hps
                  clear hps
                  go_wp2_with (at_builtin; (refine wpList_append_own _ rfl (.tmp 76) (.tmp 81) 23 rfl w.heap.size 37 i0 _ 2 16 Try.underlying23 hi hz0 hz1 hz2 rfl (by decide) _ P.length _ rfl (HO.out.alloc _) ⟨wr.heap.size, 0, none⟩ 1 1 (Pl.cs ⟨yn, ys⟩) rfl rfl ?c1 ?c2 ?c3 ?c4 ?c5 ?_))
                  case c1 => exact pl_cell_new wr yn ys
                  case c2 => exact pl_one1 yn ys
                  case c3 => simp only [maxLen]; omega
                  case c4 => omega
                  case c5 => simp; omega
                  intro v' w2 hown' hgrow _
                  have hb5 : Below w.heap.size w w2 := (hb4.alloc hsz4 _).grown hgrow (by simp; omega) (fun k hk => (HO.out.lt k hk).1)
                  have HO2 := Lib.hid hown'
                  clear hown' hgrow HO
                  go_wp2_with fail
                  go_roundw
                  case rel => exact ⟨m + 1, by omega, by go_num, by rw [HPS.out]; simpa using HO2.out, hb5⟩
                  case measure => simp [intOf]; omega
      · have hml : l.take m = l := by rw [List.take_of_length_le]; omega
        rw [hml] at hP
        rw [hml, hP] at hown hc2 ⊢
        have hc2' := hc2
        have hpp := HPP.out
        rw [hP] at hpp
        have HO := Lib.hid hown
        clear h h2 hown HPP hP hml
        by_cases hPW : (P.length : Int) < W
        · rw [if_pos hPW] at hpp
          have HP := Lib.hid hpp
          clear hpp
          go_wp2_with fail
          refine bodyPost_ret (v := .tuple #[.slice none 0 0, .int .i64 3]) (by simp [results, Try.results28, go_sem]) rfl (by rw [HP.out]; exact givesE_nil 3 hb)
        · rw [if_neg hPW] at hpp
          have HP := Lib.hid hpp
          clear hpp
          go_wp2_with fail
          refine bodyPost_ret (v := .tuple #[.slice A3 P.length c3, .int .i64 0]) (by simp [results, Try.results28, go_sem]) rfl (by rw [HP.out]; exact ⟨A3, c3, rfl, hb, hc2', hc3, HO.out⟩)
end Go.Proofs.Ytcmidhecmhbeoaa
