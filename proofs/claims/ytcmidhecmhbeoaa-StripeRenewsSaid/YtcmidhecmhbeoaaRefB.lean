/- Chapter 14, the reference: a fragment renewed (ref.Renew). -/
import Derived.Test.YtcmidhecmhbeoaaRefA
namespace Go.Proofs.Ytcmidhecmhbeoaa
open Go.RowKit

set_option maxRecDepth 100000 in
set_option maxHeartbeats 8000000 in
theorem rrenew_any (first W e : Int) (l bad kn : List Pl) (A A3 A4 : Option Addr) (c c3 c4 : Nat) (w : World) (h : PR w w.heap.size A l) (h3 : PR w w.heap.size A3 bad) (h4 : PR w w.heap.size A4 kn) (hl : l.length ≤ 1000) (hl3 : bad.length ≤ 1000) (hl4 : kn.length ≤ 1000) :
    Calls Try.prog 14 #[.agg #[.int .u64 first, .slice A l.length c], .int .i64 W, .int .i64 e, .slice A3 bad.length c3, .slice A4 kn.length c4] w fun e' w' => GivesF w first (renP l W e bad kn) e' w' := by
  have H := Lib.hid h
  have H3 := Lib.hid h3
  have H4 := Lib.hid h4
  clear h h3 h4
  obtain ⟨i0, hi, hz0, hz1, hz2⟩ := info_parts info37
  obtain ⟨W0, hW0⟩ : ∃ W0, W0 = (w.alloc (.cells #[.int .u64 first, .slice A l.length c] 25)).alloc (.cells #[.int .u64 0, .slice none 0 0] 25) := ⟨_, rfl⟩
  have hb0 : Below w.heap.size w W0 := by rw [hW0]; exact ((Below.refl _ _).alloc (Nat.le_refl _) _).alloc (by simp) _
  have hF : Blk W0 w.heap.size 25 #[.int .u64 first, .slice A l.length c] := by rw [hW0]; exact (Blk.new _ _ _).alloc _
  have hR : Blk W0 (w.heap.size + 1) 25 #[.int .u64 0, .slice none 0 0] := by rw [hW0]; exact blk_newAt (by simp) _ _
  have HF := Lib.hid hF
  have HR := Lib.hid hR
  have hFl := hF.lt
  have hRl := hR.lt
  clear hF hR
  go_enter Try.func14, Try.ntmps14
  go_wp2_with fail
  rw [← hW0]
  clear hW0
  go_loopw [12, 13] (fun v i wr => ∃ j : Nat, j ≤ kn.length ∧ i = .int .i64 j ∧ wr.ownsRow W0.heap.size 37 2 v (keepL bad (kn.take j)).length ((keepL bad (kn.take j)).flatMap Pl.cs) ∧ Below W0.heap.size W0 wr) (fun _ i _ => kn.length - (intOf i).toNat)
  case atStart => exact ⟨0, Nat.zero_le _, rfl, ⟨rfl, .inl ⟨rfl, rfl⟩⟩, Below.refl _ _⟩
  case round =>
    obtain ⟨j, hj, rfl, hown, hbr⟩ := hrel
    have hbw := hb0.trans (hbr.mono hb0.size)
    have hsr := hbr.size
    have HO := Lib.hid hown
    clear hown
    by_cases hlt : j < kn.length
    · obtain ⟨bb, o, yn, ys, rfl, hBb, hy, y0, y1⟩ := pl_elem (H4.out.below hbw) hlt
      have HT := Lib.hid (congrArg (keepL bad) (take_snoc? hy))
      have HY := Lib.hid hy
      clear hy
      go_wp2_with fail
      refine (has_any bad A3 c3 yn ys _ wr ((H3.out.below hbw).more hbw.size) (Nat.le_refl _) (by omega)).mono ?_
      rintro e5 w5 ⟨rfl, hb5⟩
      have hbr5 := hbr.trans (hb5.mono hbr.size)
      have hbw5 := hb0.trans (hbr5.mono hb0.size)
      have HO5 := Lib.hid (own_below HO.out hb5)
      clear y0 y1
      by_cases hm : (⟨yn, ys⟩ : Pl) ∈ bad
      · rw [decide_eq_true hm]
        have hkk : keepL bad (kn.take (j + 1)) = keepL bad (kn.take j) := by rw [HT.out, keepL_snoc, if_pos hm]
        have HK := Lib.hid hkk
        clear hm hkk hb5
        go_wp2_with fail
        go_roundw
        case rel => exact ⟨j + 1, by omega, by go_num, by rw [HK.out]; exact HO5.out, hbr5⟩
        case measure => simp [intOf]; omega
      · rw [decide_eq_false hm]
        have hkk : keepL bad (kn.take (j + 1)) = keepL bad (kn.take j) ++ [⟨yn, ys⟩] := by rw [HT.out, keepL_snoc, if_neg hm]
        have HK := Lib.hid hkk
        obtain ⟨bb, o, yn2, ys2, he2, hBb2, hy2, y0, y1⟩ := pl_elem (H4.out.below hbw5) hlt
        cases he2
        have hyy : (⟨yn2, ys2⟩ : Pl) = ⟨yn, ys⟩ := by
          have h1 := HY.out.symm.trans hy2
          injection h1 with h1
          exact h1.symm
        cases hyy
        have hvl := (keepL_len bad (kn.take j))
        have hvl2 : (kn.take j).length ≤ kn.length := by rw [List.length_take]; omega
        clear hm hkk hb5 hy2 HO
        go_wp2_with (at_builtin; go_loud (refine wpList_append_any _ rfl (.tmp 38) (.tmp 43) 23 rfl W0.heap.size 37 i0 _ 2 16 Try.underlying23 hi hz0 hz1 hz2 rfl (by decide) _ _ _ rfl (own_below HO5.out ((Below.refl _ _).alloc (Nat.le_refl _) _)) _ (some ⟨w5.heap.size, 0, none⟩) 1 1 (Pl.cs ⟨yn, ys⟩) rfl (Reads.of_blk (Blk.new _ 37 #[.int .i64 yn, .int .u64 ys]) rfl rfl) (pl_one1 yn ys) (by simp only [maxLen]; omega) (by omega) (by have := hbr5.size; simp; omega) ?_))
        intro v' w9 hown9 hgr9 hat9
        have hb9 : Below W0.heap.size w5 w9 := ((Below.refl _ _).alloc hbr5.size _).grown hgr9 (by have := hbr5.size; simp; omega) (fun k ek => (HO5.out.lt k ek).1)
        have hbr9 := hbr5.trans hb9
        have hown9' : w9.ownsRow W0.heap.size 37 2 v' (keepL bad (kn.take (j + 1))).length ((keepL bad (kn.take (j + 1))).flatMap Pl.cs) := by rw [HK.out, List.flatMap_append, List.flatMap_singleton, List.length_append]; exact hown9
        have HO9 := Lib.hid hown9'
        clear y0 y1 hown9 hgr9 hat9 hown9'
        go_wp2_with fail
        go_roundw
        case rel => exact ⟨j + 1, by omega, by go_num, HO9.out, hbr9⟩
        case measure => simp [intOf]; omega
    · have hjl : j = kn.length := by omega
      subst hjl
      have HO' := HO.out
      rw [List.take_of_length_le (Nat.le_refl _)] at HO'
      have hkl := keepL_len bad kn
      obtain ⟨gd, hgd⟩ : ∃ gd, keepL bad kn = gd := ⟨_, rfl⟩
      have hren : renP l W e bad kn = if (st2 W (st1 l bad gd l.length) (st1 l bad gd l.length).2.1.length).2 = true then some (st3 e (st2 W (st1 l bad gd l.length) (st1 l bad gd l.length).2.1.length).1 gd gd.length) else none := by unfold renP; rw [hgd]
      rw [hgd] at HO' hkl
      obtain ⟨Ag, cg, rfl, hcg1, hcg2⟩ := own_form HO'
      have HGD := Lib.hid (Reads.of_own HO' : PR _ _ Ag gd)
      have HREN := Lib.hid hren
      have hFr := HF.out.below hbr hFl
      obtain ⟨f0, f1⟩ := blk_cell2 hFr
      have HFr := Lib.hid hFr
      have HRr := Lib.hid (HR.out.below hbr hRl)
      have HL := Lib.hid ((H.out.below hbw).more hbw.size)
      have HB := Lib.hid ((H3.out.below hbw).more hbw.size)
      clear HO' hgd hren hFr HO hlt
      have hwr : w.heap.size + 1 < wr.heap.size := by omega
      have m0 : w.heap.size < wr.heap.size := by omega
      go_wp2_with (at_builtin; go_loud (refine wpList_append_lit _ rfl (.tmp 45) (.tmp 47) 23 rfl 37 i0 _ 2 16 Try.underlying23 hi hz0 hz1 hz2 rfl (by decide) wr.heap.size wr.heap.size rfl (Blk.new _ 37 #[]) (Nat.le_refl _) wr.heap.size A l.length c (l.flatMap Pl.cs) rfl (HL.out.alloc (Nat.le_refl _) _) (pl_one l) (by simp only [maxLen]; omega) (by omega) ?_))
      intro Ab cb w2 hcb1 hcb2 hob hb2
      have hb2w : Below wr.heap.size wr w2 := ((Below.refl _ _).alloc (Nat.le_refl _) _).trans (hb2.mono (by simp))
      have hrr : RR wr wr.heap.size w2.heap.size Ab l.length cb (st1 l bad gd 0).1 (st1 l bad gd 0).2.1 (.slice none 0 0) w2 := ⟨hb2w, Nat.le_refl _, rfl, hob, fun ad ha => by have := own_ge hob ad ha; omega, ⟨rfl, .inl ⟨rfl, rfl⟩⟩⟩
      have HRR := Lib.hid hrr
      obtain ⟨B0, hB0⟩ : ∃ B0, wr.heap.size = B0 := ⟨_, rfl⟩
      obtain ⟨B1, hB1⟩ : ∃ B1, w2.heap.size = B1 := ⟨_, rfl⟩
      have h01 : B0 ≤ B1 := by rw [← hB0, ← hB1]; exact hb2w.size
      rw [hB0] at hwr
      rw [hB0] at HRR HGD HL HB
      rw [hB1] at HRR
      obtain ⟨wa, hwa⟩ : ∃ wa, wa = wr := ⟨_, rfl⟩
      rw [← hwa] at HRR HGD HL HB HFr HRr hbw hB0
      have HBW := Lib.hid hbw
      have hww : w.heap.size ≤ wa.heap.size := hbw.size
      clear hrr hob hb2 f0 f1 hb2w hB1 m0 hwa hbw hbr
      go_wp2_with fail
      have hgd1 : gd.length ≤ 1000 := by omega
      go_loopw [15, 16, 17, 18, 19, 20, 21] (fun lf sv i _ _ _ _ wr2 => ∃ j : Nat, j ≤ l.length ∧ i = .int .i64 j ∧ (∃ sm, sv = .bool sm ∧ (st1 l bad gd j).2.2 = sm) ∧ RR wa B0 B1 Ab l.length cb (st1 l bad gd j).1 (st1 l bad gd j).2.1 lf wr2) (fun _ _ i _ _ _ _ _ => l.length - (intOf i).toNat)
      case atStart => exact ⟨0, Nat.zero_le _, rfl, ⟨false, rfl, rfl⟩, HRR.out⟩
      case round =>
        obtain ⟨j, hj, rfl, ⟨sm, rfl, hsm⟩, hinv⟩ := hrel
        have HSM := Lib.hid hsm
        have hbr := hinv.below
        have hsr := hbr.size
        have hsz := hinv.sz
        have hln2 := (st1_len l bad gd j hj).2
        obtain ⟨Al, cl, rfl, hcl1, hcl2⟩ := own_form hinv.left
        have HINV := Lib.hid hinv
        have m0 : w.heap.size < wr.heap.size := by omega
        clear hsm hinv HRR
        have hFr := HFr.out.below hbr (by omega)
        obtain ⟨f0, f1⟩ := blk_cell2 hFr
        by_cases hlt : j < l.length
        · obtain ⟨bb, o, yn, ys, rfl, hBb, hy, y0, y1⟩ := pl_elem (HL.out.below hbr) hlt
          have HST := Lib.hid (st1_succ (bad := bad) (good := gd) hy)
          have HY := Lib.hid hy
          clear hy hFr
          go_wp2_with fail
          refine (has_any bad A3 c3 yn ys _ wr ((HB.out.below hbr).more (by omega)) (Nat.le_refl _) (by omega)).mono ?_
          rintro e5 w5 ⟨rfl, hb5⟩
          have HI5 := Lib.hid (HINV.out.later h01 hb5)
          clear y0 y1 f0 f1
          by_cases hm : (⟨yn, ys⟩ : Pl) ∈ bad
          · rw [decide_eq_true hm]
            have HM := Lib.hid hm
            have hs5 := hb5.size
            obtain ⟨sb, hsb⟩ : ∃ sb, (st1 l bad gd j).1 = sb := ⟨_, rfl⟩
            obtain ⟨lf, hlf⟩ : ∃ lf, (st1 l bad gd j).2.1 = lf := ⟨_, rfl⟩
            have HSB := Lib.hid hsb
            have HLF := Lib.hid hlf
            rw [hsb, hlf] at HI5
            rw [hlf] at hln2 hcl1 ⊢
            have HBL := Lib.hid HI5.out.len
            clear hm hb5 hsb hlf HINV
            go_wp2_with fail
            go_loopw [18, 19] (fun at' k wr3 => ∃ m : Nat, m ≤ l.length ∧ k = .int .i64 ((m : Int) - 1) ∧ at' = .int .i64 (idxFrom sb m ⟨yn, ys⟩) ∧ RR wa B0 B1 Ab l.length cb sb lf (.slice Al lf.length cl) wr3) (fun _ k _ => (intOf k + 1).toNat)
            case atStart => exact ⟨l.length, Nat.le_refl _, rfl, by rw [← HBL.out, idxFrom_end], HI5.out⟩
            case round =>
              obtain ⟨m, hm, rfl, rfl, hinv⟩ := hrel
              have HINV := Lib.hid hinv
              have hbr := hinv.below
              have hsz := hinv.sz
              clear HI5 hinv
              have hFr := HFr.out.below hbr (by omega)
              obtain ⟨f0, f1⟩ := blk_cell2 hFr
              have m0 : w.heap.size < wr.heap.size := hFr.lt
              clear hFr
              by_cases hltm : 0 < m
              · obtain ⟨q, rfl⟩ : ∃ q, m = q + 1 := ⟨m - 1, by omega⟩
                obtain ⟨bc, o2, xn, xs, he2, hBb2, hx2, x0, x1⟩ := pl_elem (HL.out.below hbr) hlt
                cases he2
                have hxx : (⟨xn, xs⟩ : Pl) = ⟨yn, ys⟩ := by
                  have h1 := HY.out.symm.trans hx2
                  injection h1 with h1
                  exact h1.symm
                cases hxx
                have hpb : PR wr wr.heap.size Ab sb := by unfold PR; rw [HBL.out]; exact Reads.of_own HINV.out.row
                obtain ⟨bd, o3, zn, zs, rfl, hBb3, hz, z0, z1⟩ := pl_elem hpb (show q < sb.length by rw [HBL.out]; omega)
                have hq1 : ((q + 1 : Nat) : Int) - 1 = q := by omega
                rw [hq1]
                have hE := run_eqP zn zs yn ys
                have HZ := Lib.hid hz
                clear hz hq1 hpb hx2
                by_cases he : (⟨zn, zs⟩ : Pl) = ⟨yn, ys⟩
                · rw [decide_eq_true he] at hE
                  have HE := Lib.hid he
                  clear he
                  go_wp2_with fail
                  go_quiet (fail)
                  go_wp2_with fail
                  go_roundw
                  case rel => exact ⟨q, by omega, rfl, by rw [idxFrom_hit (by rw [HZ.out, HE.out])], HINV.out.drewN _⟩
                  case measure => simp [intOf]
                · rw [decide_eq_false he] at hE
                  have HE := Lib.hid he
                  clear he
                  go_wp2_with fail
                  go_quiet (fail)
                  go_wp2_with fail
                  go_roundw
                  case rel => exact ⟨q, by omega, rfl, by rw [idxFrom_miss HZ.out HE.out], HINV.out.drewN _⟩
                  case measure => simp [intOf]
              · have hm0 : m = 0 := by omega
                subst hm0
                rw [idxFrom_zero, show (((0 : Nat) : Int) - 1) = -1 from rfl]
                have hi1 := idxP_lo sb ⟨yn, ys⟩
                have hi2 := idxP_hi sb ⟨yn, ys⟩
                have hi3 := idxP_lt sb ⟨yn, ys⟩
                obtain ⟨kk, hkk⟩ : ∃ kk, idxP sb ⟨yn, ys⟩ = kk := ⟨_, rfl⟩
                rw [hkk] at hi1 hi2 hi3 ⊢
                have HKK := Lib.hid hkk
                have HI3 := Lib.hid hi3
                clear hkk hi3
                go_wp2_with fail
                have hI0 := HINV.out
                have HI0 := Lib.hid hI0
                clear hI0 HINV f0 f1 m0 hbr hsz
                go_loopw [20, 21] (fun dn k wr3 => ∃ m : Nat, m ≤ gd.length ∧ k = .int .i64 m ∧ ((dn = .bool false ∧ (∀ y ∈ gd.take m, swapL sb ⟨yn, ys⟩ y = none) ∧ RR wa B0 B1 Ab l.length cb sb lf (.slice Al lf.length cl) wr3) ∨ (dn = .bool true ∧ 0 ≤ kk ∧ ∃ b', repL sb ⟨yn, ys⟩ gd = some b' ∧ RR wa B0 B1 Ab l.length cb b' lf (.slice Al lf.length cl) wr3))) (fun _ k _ => gd.length - (intOf k).toNat)
                case atStart => exact ⟨0, Nat.zero_le _, rfl, .inl ⟨rfl, by simp, HI0.out⟩⟩
                case round =>
                  obtain ⟨m, hm, rfl, hcs⟩ := hrel
                  clear HI0
                  rcases hcs with ⟨rfl, hno, hinv⟩ | ⟨rfl, hk0, b', hrep, hinv⟩
                  · have HNO := Lib.hid hno
                    have HINV := Lib.hid hinv
                    have hbr := hinv.below
                    have hsz := hinv.sz
                    clear hno hinv
                    have hFr := HFr.out.below hbr (by omega)
                    obtain ⟨f0, f1⟩ := blk_cell2 hFr
                    have m0 : w.heap.size < wr.heap.size := hFr.lt
                    clear hFr
                    by_cases hgo : m < gd.length ∧ 0 ≤ kk
                    · obtain ⟨hmg, hk0⟩ := hgo
                      obtain ⟨bg, og, gn, gs, rfl, hBg, hg, g0, g1⟩ := pl_elem (l := gd) (w := wr) (HGD.out.below hbr) hmg
                      have HG := Lib.hid hg
                      clear hg
                      have hbgw : bg < wr.heap.size := by omega
                      cases hnb : nodeB sb gn kk with
                      | true =>
                        have hsw : swapL sb ⟨yn, ys⟩ ⟨gn, gs⟩ = none := swap_no (by rw [HKK.out]; exact hnb)
                        have HSW := Lib.hid hsw
                        have HNB := Lib.hid hnb
                        clear hsw hnb
                        go_wp2_with fail
                        refine (node_at sb l.length HBL.out Ab cb gn kk true HNB.out wr (Reads.of_own HINV.out.row) (by omega)).mono ?_
                        rintro e6 w6 ⟨rfl, rfl⟩
                        go_wp2_with fail
                        go_roundw
                        case rel => exact ⟨m + 1, by omega, by go_num, .inl ⟨rfl, by
                          rw [take_snoc? HG.out]
                          intro x hx
                          rcases List.mem_append.1 hx with hx | hx
                          · exact HNO.out x hx
                          · rw [List.mem_singleton.1 hx]; exact HSW.out, HINV.out⟩⟩
                        case measure => simp [intOf]; omega
                      | false =>
                        have hsw : swapL sb ⟨yn, ys⟩ ⟨gn, gs⟩ = some (sb.set kk.toNat ⟨gn, gs⟩) := by
                          have := swap_yes (l := sb) (x := ⟨yn, ys⟩) (y := ⟨gn, gs⟩) (by rw [HKK.out]; omega) (by rw [HKK.out]; exact hnb)
                          rwa [HKK.out] at this
                        obtain ⟨hq1, hq2⟩ := HI3.out hk0
                        obtain ⟨q, hq⟩ : ∃ q, kk.toNat = q := ⟨_, rfl⟩
                        rw [hq] at hq1 hq2 hsw
                        subst hq2
                        have HREP := Lib.hid (repL_at HG.out HNO.out hsw)
                        have HNB := Lib.hid hnb
                        have hql : q < l.length := by have := HBL.out; omega
                        have hrow := HINV.out.row
                        obtain ⟨r, rfl, hrw⟩ := own_addr hrow (by omega)
                        have hrl := (hrow.lt r rfl).2
                        have rg := hrow.frozenAt
                        obtain ⟨zn, zs, hyq⟩ : ∃ zn zs, sb[q] = ⟨zn, zs⟩ := ⟨_, _, rfl⟩
                        have c0 := flat_get Pl.cs 2 pl_len sb q 0 hq1 (by omega)
                        have c1 := flat_get Pl.cs 2 pl_len sb q 1 hq1 (by omega)
                        rw [hyq] at c0 c1
                        rw [Nat.add_zero] at c0
                        have v0 : wr.cell? ⟨r, q * 2, none⟩ = some (.int .i64 zn) := (hrow.cellAt (q * 2) (by omega)).trans c0
                        have v1 : wr.cell? ⟨r, q * 2 + 1, none⟩ = some (.int .u64 zs) := (hrow.cellAt (q * 2 + 1) (by omega)).trans c1
                        have hbr2 : bg ≠ r := by omega
                        clear hsw hnb hrow hyq c0 c1 hq
                        go_wp2_with fail
                        refine (node_at sb l.length HBL.out (some ⟨r, 0, none⟩) cb gn q false HNB.out wr (Reads.of_own HINV.out.row) (by omega)).mono ?_
                        rintro e6 w6 ⟨rfl, rfl⟩
                        go_wp2_with fail
                        have HST' := Lib.hid (HINV.out.store (q := q) gn gs)
                        go_roundw
                        case rel => exact ⟨m + 1, by omega, by go_num, .inr ⟨rfl, by omega, _, HREP.out, HST'.out⟩⟩
                        case measure => simp [intOf]; omega
                    · have hrn : repL sb ⟨yn, ys⟩ gd = none := by
                        by_cases hk0 : 0 ≤ kk
                        · have hml : gd.take m = gd := List.take_of_length_le (by omega)
                          refine repL_no ?_
                          rw [← hml]
                          exact HNO.out
                        · exact repL_neg (by rw [HKK.out]; omega)
                      have hsn : st1 l bad gd (j + 1) = (sb, lf ++ [⟨yn, ys⟩], (st1 l bad gd j).2.2) := by
                        rw [HST.out, ph1_none HM.out (by rw [HSB.out]; exact hrn), HSB.out, HLF.out]
                      have HSN := Lib.hid hsn
                      obtain ⟨bc, o2, xn, xs, he2, hBb2, hx2, x0, x1⟩ := pl_elem (HL.out.below hbr) hlt
                      cases he2
                      have hxx : (⟨xn, xs⟩ : Pl) = ⟨yn, ys⟩ := by
                        have h1 := HY.out.symm.trans hx2
                        injection h1 with h1
                        exact h1.symm
                      cases hxx
                      clear hrn hsn hx2
                      by_cases hmg : m < gd.length <;> by_cases hk0 : 0 ≤ kk
                      · exact absurd ⟨hmg, hk0⟩ hgo
                      all_goals
                        clear hgo
                        try have d9 : decide (0 ≤ kk) = false := decide_eq_false hk0
                        try have d9 : decide (0 ≤ kk) = true := decide_eq_true hk0
                        go_wp2_with (at_builtin; go_loud (refine wpList_append_any _ rfl (.tmp 113) (.tmp 119) 23 rfl B1 37 i0 _ 2 16 Try.underlying23 hi hz0 hz1 hz2 rfl (by decide) _ _ _ rfl (own_below HINV.out.left ((Below.refl _ _).alloc (Nat.le_refl _) _)) _ (some ⟨wr.heap.size, 0, none⟩) 1 1 (Pl.cs ⟨yn, ys⟩) rfl (Reads.of_blk (Blk.new _ 37 #[.int .i64 yn, .int .u64 ys]) rfl rfl) (pl_one1 yn ys) (by simp only [maxLen]; omega) (by omega) (by simp; omega) ?_))
                        intro v' w9 hown9 hgr9 hat9
                        have HA := Lib.hid (HINV.out.app (x := ⟨yn, ys⟩) h01 _ hown9 hgr9)
                        clear hown9 hgr9 hat9 x0 x1 f0 f1
                        go_wp2_with fail
                        go_roundw
                        case rel => exact ⟨j + 1, by omega, by go_num, ⟨sm, rfl, by rw [HSN.out]; exact HSM.out⟩, by rw [HSN.out]; exact HA.out⟩
                        case measure => simp [intOf]; omega
                  · have HREP := Lib.hid hrep
                    have HINV := Lib.hid hinv
                    have hsn : st1 l bad gd (j + 1) = (b', lf, true) := by
                      rw [HST.out, ph1_some HM.out (by rw [HSB.out]; exact hrep), HLF.out]
                    have HSN := Lib.hid hsn
                    clear hrep hinv hsn
                    by_cases hmg : m < gd.length
                    all_goals
                      go_wp2_with fail
                      go_roundw
                      case rel => exact ⟨j + 1, by omega, by go_num, ⟨true, rfl, by rw [HSN.out]⟩, by rw [HSN.out]; exact HINV.out⟩
                      case measure => simp [intOf]; omega
          · rw [decide_eq_false hm]
            have hsn : st1 l bad gd (j + 1) = st1 l bad gd j := by rw [HST.out, ph1_no hm]
            have HSN := Lib.hid hsn
            clear hm hb5 hsn
            go_wp2_with fail
            go_roundw
            case rel => exact ⟨j + 1, by omega, by go_num, ⟨_, rfl, by rw [HSN.out, HSM.out]⟩, by rw [HSN.out]; exact HI5.out⟩
            case measure => simp [intOf]; omega
        · have hjl : j = l.length := by omega
          subst hjl
          obtain ⟨s, hs⟩ : ∃ s, st1 l bad gd l.length = s := ⟨_, rfl⟩
          have hI0 := HINV.out
          rw [hs] at hI0 HREN HSM hln2 hcl1 ⊢
          have HLR := Lib.hid (Reads.of_own hI0.left)
          have hrq : RQ B0 s.1 (.slice Ab l.length cb) wr := RQ.of hI0.len hI0.row
          have HRQ := Lib.hid hrq
          have hs1l := Nat.le_of_eq hI0.len
          have HBW1 := Lib.hid hbr
          clear hI0 hrq HINV hs hFr
          go_wp2_with fail
          clear f0 f1 m0
          obtain ⟨wc, hwc⟩ : ∃ wc, wc = wr := ⟨_, rfl⟩
          rw [← hwc] at HLR HRQ HBW1 hsr hsz ⊢
          have hcc : wr.heap.size = wc.heap.size := by rw [hwc]
          clear hwc hbr
          go_loopw [14, 16, 22, 23] (fun v sv i _ wr2 => ∃ j : Nat, j ≤ s.2.1.length ∧ i = .int .i64 j ∧ (∃ sm, sv = .bool sm ∧ (st2 W s j).2 = sm) ∧ RQ B0 (st2 W s j).1 v wr2 ∧ Below wc.heap.size wc wr2) (fun _ _ i _ _ => s.2.1.length - (intOf i).toNat)
          case atStart => exact ⟨0, Nat.zero_le _, rfl, ⟨sm, rfl, HSM.out⟩, HRQ.out, Below.refl _ _⟩
          case round =>
            obtain ⟨j, hj, rfl, ⟨sm2, rfl, hsm2⟩, hrq, hbr⟩ := hrel
            have HSM2 := Lib.hid hsm2
            have hsc := hbr.size
            have hln3 := st2_len W s j
            obtain ⟨b, hbb⟩ : ∃ b, (st2 W s j).1 = b := ⟨_, rfl⟩
            rw [hbb] at hrq hln3
            have HBB := Lib.hid hbb
            obtain ⟨A5, n, c5, rfl, hbn, hnc, hcm, hown⟩ := hrq
            have HBN := Lib.hid hbn
            have hn1 : n ≤ 1000 := by omega
            have HOWN := Lib.hid hown
            unfold maxLen at hcm
            clear hsm2 hown HRQ hbn hbb
            by_cases hlt : j < s.2.1.length
            · obtain ⟨bb, o, yn, ys, rfl, hBb, hy, y0, y1⟩ := pl_elem (HLR.out.below hbr) hlt
              have HST := Lib.hid (st2_succ (W := W) hy)
              have HY := Lib.hid hy
              clear hy y0 y1
              go_wp2_with fail
              have hbr0 := Lib.hid hbr
              clear hbr
              go_loopw [14, 16, 23] (fun v sv k wr3 => ∃ m : Nat, m ≤ n ∧ v = .slice A5 n c5 ∧ sv = .bool sm2 ∧ k = .int .i64 m ∧ (⟨yn, ys⟩ : Pl) ∉ b.take m ∧ Below wc.heap.size wc wr3 ∧ wr3.ownsRow B0 37 2 (.slice A5 n c5) n (b.flatMap Pl.cs)) (fun _ _ k _ => n - (intOf k).toNat)
              case atStart => exact ⟨0, Nat.zero_le _, rfl, rfl, rfl, by simp, hbr0.out, HOWN.out⟩
              case round =>
                obtain ⟨m, hm, rfl, rfl, rfl, hno, hbr, hown⟩ := hrel
                have HNO := Lib.hid hno
                have HO := Lib.hid hown
                have hsc := hbr.size
                clear hno hown HOWN hbr0
                by_cases hgo : m < n ∧ W < (n : Int)
                · obtain ⟨hmn, hWn⟩ := hgo
                  have dW : decide (W < (n : Int)) = true := decide_eq_true hWn
                  obtain ⟨bc, o2, xn, xs, he2, hBb2, hx2, x0, x1⟩ := pl_elem (HLR.out.below hbr) hlt
                  cases he2
                  have hxx : (⟨xn, xs⟩ : Pl) = ⟨yn, ys⟩ := by
                    have h1 := HY.out.symm.trans hx2
                    injection h1 with h1
                    exact h1.symm
                  cases hxx
                  have hpb : PR wr wr.heap.size A5 b := by unfold PR; rw [HBN.out]; exact Reads.of_own HO.out
                  obtain ⟨g, rfl, hgB⟩ := own_addr HO.out (by omega)
                  obtain ⟨bd, o3, zn, zs, he3, hBb3, hz, z0, z1⟩ := pl_elem hpb (show m < b.length by rw [HBN.out]; exact hmn)
                  cases he3
                  rw [Nat.zero_add] at z0 z1
                  have hE := run_eqP zn zs yn ys
                  have HZ := Lib.hid hz
                  clear hz hpb hx2
                  by_cases he : (⟨zn, zs⟩ : Pl) = ⟨yn, ys⟩
                  · rw [decide_eq_true he] at hE
                    have HE := Lib.hid he
                    clear he
                    go_wp2_with fail
                    go_quiet (fail)
                    go_wp2_with fail
                    generalize hwd : wr.drewN nq = wd
                    have hbd : Below wc.heap.size wc wd := by rw [← hwd]; exact belowN hbr nq
                    have hod : wd.ownsRow B0 37 2 (.slice (some ⟨g, 0, none⟩) n c5) n (b.flatMap Pl.cs) := by rw [← hwd]; exact own_drewN HO.out nq
                    have hsd := hbd.size
                    have HOD := Lib.hid hod
                    have hi1 : (0 : Int) ≤ m := by omega
                    have hi2 : (m : Int) + 1 ≤ n := by omega
                    have hi3 : (n : Int) ≤ c5 := by omega
                    have hi4 : (m : Int) ≤ n := by omega
                    have hi5 : m + 1 ≤ n := by omega
                    have hbl := HBN.out
                    obtain ⟨off, hoff⟩ : ∃ off, off = if c5 = m + 1 then 0 else (m + 1) * 2 := ⟨_, rfl⟩
                    have HOFF := Lib.hid hoff
                    have HBL := Lib.hid hbl
                    have hst : ph2 W (st2 W s j) ⟨yn, ys⟩ = (b.take m ++ b.drop (m + 1), true) := by
                      have hmem : (⟨yn, ys⟩ : Pl) ∈ b := by rw [← HE.out]; exact List.mem_of_getElem? HZ.out
                      have hix : b.idxOf (⟨yn, ys⟩ : Pl) = m := by
                        have h1 := idxP_at (l := b) (x := ⟨yn, ys⟩) (by rw [← HE.out]; exact HZ.out) HNO.out
                        unfold idxP at h1
                        rw [if_pos hmem] at h1
                        omega
                      have h2 := ph2_yes (W := W) (st := st2 W s j) (x := ⟨yn, ys⟩) (by rw [HBB.out, hbl]; exact hWn) (by rw [HBB.out]; exact hmem)
                      rw [HBB.out, hix] at h2
                      exact h2
                    have HSN := Lib.hid (HST.out.trans hst)
                    clear hwd hod hoff hbl hst hE z0 z1 x0 x1 hbr
                    refine Rs.region 9 (cutSp wd.heap.size g n c5 m off b) [148, 149, 150, 151, 152, 153, 154, 155, 156] rfl (by decide) (by kernel_rfl) (by kernel_rfl) (by kernel_rfl) ?_ ?_
                    · intro vals V hb
                      simp only [List.take_succ_cons, List.take_zero]
                      have hszV := hb.size
                      refine ⟨Rs.stepL [] (by kernel_rfl) ?_, Rs.stepL [] (by kernel_rfl) ?_, Rs.stepL [] (by kernel_rfl) ?_, Rs.stepL [149, 150] (by kernel_rfl) ?_, Rs.stepL [148, 151] (by kernel_rfl) ?_, Rs.stepL [] (by kernel_rfl) ?_, Rs.stepL [] (by kernel_rfl) ?_, Rs.stepL [154] (by kernel_rfl) ?_, Rs.stepL [153, 155] (by kernel_rfl) ?_, trivial⟩
                      · rintro -
                        refine ⟨trivial, fun K hK => ?_⟩
                        simp only [Rs.frm, List.foldl_cons, List.foldl_nil, Act.put, List.setIfInBounds_toArray, List.set_cons_succ, List.set_cons_zero] at hK ⊢
                        have HK := Lib.hid hK
                        clear hK
                        go_wp2_with fail
                        exact HK.out _ _ ((Below.refl _ _).alloc (Nat.le_refl _) _) ⟨V.heap.size, hszV, rfl, Blk.new _ _ _⟩
                      · rintro -
                        refine ⟨trivial, fun K hK => ?_⟩
                        simp only [Rs.frm, List.foldl_cons, List.foldl_nil, Act.put, List.setIfInBounds_toArray, List.set_cons_succ, List.set_cons_zero] at hK ⊢
                        have HK := Lib.hid hK
                        clear hK
                        go_wp2_with fail
                        exact HK.out _ _ (Below.refl _ _) rfl
                      · rintro -
                        refine ⟨trivial, fun K hK => ?_⟩
                        simp only [Rs.frm, List.foldl_cons, List.foldl_nil, Act.put, List.setIfInBounds_toArray, List.set_cons_succ, List.set_cons_zero] at hK ⊢
                        have HK := Lib.hid hK
                        clear hK
                        go_wp2_with fail
                        exact HK.out _ _ (Below.refl _ _) rfl
                      · rintro ⟨h149, h150, -⟩
                        have e149 : vals 149 = .slice (some ⟨g, 0, none⟩) n c5 := h149
                        have e150 : vals 150 = .int .i64 m := h150
                        refine ⟨trivial, fun K hK => ?_⟩
                        simp only [Rs.frm, List.foldl_cons, List.foldl_nil, Act.put, List.setIfInBounds_toArray, List.set_cons_succ, List.set_cons_zero, e149, e150] at hK ⊢
                        have HK := Lib.hid hK
                        clear hK
                        go_wp2_with fail
                        exact HK.out _ _ (Below.refl _ _) rfl
                      · rintro ⟨⟨g2, hg1, hg2, hg3⟩, h151, -⟩
                        have e148 : vals 148 = .slice (some ⟨g2, 0, none⟩) 0 0 := hg2
                        have e151 : vals 151 = .slice (some ⟨g, 0, none⟩) m c5 := h151
                        refine ⟨trivial, fun K hK => ?_⟩
                        simp only [Rs.frm, List.foldl_cons, List.foldl_nil, Act.put, List.setIfInBounds_toArray, List.set_cons_succ, List.set_cons_zero] at hK ⊢
                        have HK := Lib.hid hK
                        clear hK
                        have ho := own_cut (own_below HOD.out hb) (show m ≤ n by omega)
                        rw [flat_take b m (by rw [HBL.out]; omega)] at ho
                        have hbtl : (b.take m).length = m := by rw [List.length_take, HBL.out]; omega
                        refine wpList_append_lit V rfl (.tmp 148) (.tmp 151) 23 rfl 37 i0 _ 2 16 Try.underlying23 hi hz0 hz1 hz2 rfl (by decide) g2 wd.heap.size e148 hg3 hg1 V.heap.size (some ⟨g, 0, none⟩) m c5 ((b.take m).flatMap Pl.cs) e151 (Reads.of_own ho) (pl_one _) (by simp only [maxLen]; omega) (by omega) ?_
                        intro A' c' W' hc1 hc2 hown hb'
                        exact HK.out _ _ hb' ⟨A', c', by rw [hbtl]; rfl, by rw [hbtl]; exact hc1, hc2, by rw [hbtl]; exact hown⟩
                      · rintro -
                        refine ⟨trivial, fun K hK => ?_⟩
                        simp only [Rs.frm, List.foldl_cons, List.foldl_nil, Act.put, List.setIfInBounds_toArray, List.set_cons_succ, List.set_cons_zero] at hK ⊢
                        have HK := Lib.hid hK
                        clear hK
                        go_wp2_with fail
                        exact HK.out _ _ (Below.refl _ _) rfl
                      · rintro -
                        refine ⟨trivial, fun K hK => ?_⟩
                        simp only [Rs.frm, List.foldl_cons, List.foldl_nil, Act.put, List.setIfInBounds_toArray, List.set_cons_succ, List.set_cons_zero] at hK ⊢
                        have HK := Lib.hid hK
                        clear hK
                        go_wp2_with fail
                        exact HK.out _ _ (Below.refl _ _) rfl
                      · rintro ⟨h154, -⟩
                        have e154 : vals 154 = .int .i64 m := h154
                        refine ⟨trivial, fun K hK => ?_⟩
                        simp only [Rs.frm, List.foldl_cons, List.foldl_nil, Act.put, List.setIfInBounds_toArray, List.set_cons_succ, List.set_cons_zero, e154] at hK ⊢
                        have HK := Lib.hid hK
                        clear hK
                        go_wp2_with fail
                        exact HK.out _ _ (Below.refl _ _) rfl
                      · rintro ⟨h153, h155, -⟩
                        have e153 : vals 153 = .slice (some ⟨g, 0, none⟩) n c5 := h153
                        have e155 : vals 155 = .int .i64 ((m : Int) + 1) := h155
                        refine ⟨trivial, fun K hK => ?_⟩
                        simp only [Rs.frm, List.foldl_cons, List.foldl_nil, Act.put, List.setIfInBounds_toArray, List.set_cons_succ, List.set_cons_zero, e153, e155] at hK ⊢
                        have HK := Lib.hid hK
                        clear hK
                        by_cases hce : c5 = m + 1
                        · have ho := HOFF.out
                          rw [if_pos hce] at ho
                          have HO3 := Lib.hid ho
                          clear ho
                          go_wp2_with fail
                          exact HK.out _ _ (Below.refl _ _) (by rw [HO3.out]; exact congrArg (Value.slice (some ⟨g, 0, none⟩) (n - (m + 1))) (show 0 = c5 - (m + 1) by omega))
                        · have ho := HOFF.out
                          rw [if_neg hce] at ho
                          have HO3 := Lib.hid ho
                          clear ho
                          go_wp2_with fail
                          exact HK.out _ _ (Below.refl _ _) (by rw [HO3.out]; rfl)
                    · intro vals V hb hL
                      simp only [List.drop_succ_cons, List.drop_zero]
                      obtain ⟨-, -, -, -, ⟨A6, c6, h152, hc61, hc62, hown⟩, -, -, -, h156, -⟩ := hL
                      have hbtl : (b.take m).length = m := by rw [List.length_take, HBL.out]; omega
                      rw [hbtl] at h152 hown hc61
                      have e152 : vals 152 = .slice A6 m c6 := h152
                      have e156 : vals 156 = .slice (some ⟨g, off, none⟩) (n - (m + 1)) (c5 - (m + 1)) := h156
                      simp only [Rs.frm, List.foldl_cons, List.foldl_nil, Act.put, List.setIfInBounds_toArray, List.set_cons_succ, List.set_cons_zero, e152, e156]
                      have hszV := hb.size
                      have hoV := own_below HOD.out hb
                      have hdl : ((b.drop (m + 1)).flatMap Pl.cs).length = (n - (m + 1)) * 2 := by rw [flat_len Pl.cs 2 pl_len, List.length_drop, HBL.out]
                      have hrd : Reads V V.heap.size 2 (some ⟨g, off, none⟩) (n - (m + 1)) ((b.drop (m + 1)).flatMap Pl.cs) := by
                        refine ⟨hdl, fun hn => ⟨⟨g, off, none⟩, rfl, (hoV.lt g rfl).2, fun i u hu => ?_⟩⟩
                        have hil : i < (n - (m + 1)) * 2 := by
                          have := (List.getElem?_eq_some_iff.1 hu).1
                          rwa [hdl] at this
                        have hc : ¬ c5 = m + 1 := by omega
                        have ho := HOFF.out
                        rw [if_neg hc] at ho
                        rw [ho, Addr.add_lit]
                        rw [← flat_drop b (m + 1) (by rw [HBL.out]; omega), List.getElem?_drop] at hu
                        rw [hoV.cellAt _ (by omega)]
                        exact hu
                      have HOC := Lib.hid hown
                      have HRV := Lib.hid hrd
                      clear hown e152 e156 h152 h156 hoV hdl hrd hbtl
                      refine wpList_append_any _ rfl (.tmp 152) (.tmp 156) 23 rfl wd.heap.size 37 i0 _ 2 16 Try.underlying23 hi hz0 hz1 hz2 rfl (by decide) _ _ _ rfl HOC.out _ (some ⟨g, off, none⟩) (n - (m + 1)) (c5 - (m + 1)) ((b.drop (m + 1)).flatMap Pl.cs) rfl HRV.out (pl_one _) (by simp only [maxLen]; omega) (by omega) (by omega) ?_
                      intro v' w9 hown9 hgr9 hat9
                      rw [← List.flatMap_append, show m + (n - (m + 1)) = n - 1 by omega] at hown9
                      have hb9 : Below wc.heap.size wc w9 := (hbd.trans (hb.mono hbd.size)).grown hgr9 (by have := hb.size; omega) (fun k ek => by have := (HOC.out.lt k ek).1; omega)
                      have hlen9 : (b.take m ++ b.drop (m + 1)).length = n - 1 := by rw [List.length_append, List.length_take, List.length_drop, HBL.out]; omega
                      have HRQ9 := Lib.hid (RQ.of hlen9 (own_low hown9 (show B0 ≤ wd.heap.size by omega)))
                      clear hown9 hgr9 hat9 hlen9
                      go_wp2_with fail
                      go_roundw
                      case rel => exact ⟨j + 1, by omega, by go_num, ⟨true, rfl, by rw [HSN.out]⟩, by rw [HSN.out]; exact HRQ9.out, hb9⟩
                      case measure => simp [intOf]; omega
                  · rw [decide_eq_false he] at hE
                    have HE := Lib.hid he
                    clear he
                    go_wp2_with fail
                    go_quiet (fail)
                    go_wp2_with fail
                    go_roundw
                    case rel => exact ⟨m + 1, by omega, rfl, rfl, by go_num, by
                      rw [take_snoc? HZ.out, List.mem_append, List.mem_singleton]
                      rintro (h1 | h1)
                      · exact HNO.out h1
                      · exact HE.out h1.symm, belowN hbr _, own_drewN HO.out _⟩
                    case measure => simp [intOf]; omega
                · have hp2 : st2 W s (j + 1) = st2 W s j := by
                    rw [HST.out]
                    refine ph2_no ?_
                    rw [HBB.out]
                    rintro ⟨h1, h2⟩
                    rw [HBN.out] at h1
                    have hml : b.take m = b := List.take_of_length_le (by rw [HBN.out]; omega)
                    rw [← hml] at h2
                    exact HNO.out h2
                  have HP2 := Lib.hid hp2
                  clear hp2
                  by_cases hmn : m < n
                  · have dW : decide (W < (n : Int)) = false := decide_eq_false fun h => hgo ⟨hmn, h⟩
                    clear hgo
                    go_wp2_with fail
                    go_roundw
                    case rel => exact ⟨j + 1, by omega, by go_num, ⟨sm2, rfl, by rw [HP2.out]; exact HSM2.out⟩, by rw [HP2.out, HBB.out]; exact RQ.of HBN.out HO.out, hbr⟩
                    case measure => simp [intOf]; omega
                  · clear hgo
                    go_wp2_with fail
                    go_roundw
                    case rel => exact ⟨j + 1, by omega, by go_num, ⟨sm2, rfl, by rw [HP2.out]; exact HSM2.out⟩, by rw [HP2.out, HBB.out]; exact RQ.of HBN.out HO.out, hbr⟩
                    case measure => simp [intOf]; omega
            · have hjl2 : j = s.2.1.length := by omega
              subst hjl2
              obtain ⟨tt, htt⟩ : ∃ tt, st2 W s s.2.1.length = tt := ⟨_, rfl⟩
              rw [htt] at HREN HSM2 HBB
              have hrq : RQ B0 tt.1 (.slice A5 n c5) wr := by rw [HBB.out]; exact RQ.of HBN.out HOWN.out
              have HRQ := Lib.hid hrq
              have hbwa : Below B0 wa wr := HBW1.out.trans (hbr.mono (by omega))
              have htl : tt.1.length ≤ 1000 := by rw [HBB.out, HBN.out]; exact hn1
              have HBWA := Lib.hid hbwa
              clear hrq htt hbr HLR HOWN hbwa
              have kR := HRr.out.below HBWA.out hwr
              obtain ⟨d0, d1⟩ := blk_cell2 kR
              have dl := kR.lt
              have df := kR.frozen
              clear kR
              cases sm2 with
              | false =>
                rw [HSM2.out] at HREN
                clear HSM2
                go_wp2_with fail
                rw [HREN.out]
                refine bodyPost_ret (v := .tuple #[.agg #[.int .u64 0, .slice none 0 0], .bool false]) (by simp [results, Try.results14, go_sem, d0, d1]) rfl ⟨rfl, ?_⟩
                exact below_set2 (HBW.out.trans (HBWA.out.mono (by omega))) (by omega) _ _
              | true =>
                rw [HSM2.out] at HREN
                have HREN' : Hid (renP l W e bad kn = some (st3 e tt.1 gd gd.length)) := Lib.hid HREN.out
                clear HSM2 HREN d0 d1 dl df
                go_wp2_with fail
                go_loopw [14, 24] (fun v i wr3 => ∃ j : Nat, j ≤ gd.length ∧ i = .int .i64 j ∧ RQ B0 (st3 e tt.1 gd j) v wr3 ∧ Below B0 wa wr3) (fun _ i _ => gd.length - (intOf i).toNat)
                case atStart => exact ⟨0, Nat.zero_le _, rfl, HRQ.out, HBWA.out⟩
                case round =>
                  obtain ⟨j, hj, rfl, hrq, hbr⟩ := hrel
                  clear HRQ HBWA
                  have hsw := hbr.size
                  have hln5 := st3_len e tt.1 gd j
                  obtain ⟨b3, hb3⟩ : ∃ b3, st3 e tt.1 gd j = b3 := ⟨_, rfl⟩
                  rw [hb3] at hrq hln5
                  obtain ⟨A7, n7, c7, rfl, hbn7, hnc7, hcm7, hown7⟩ := hrq
                  have hn7 : n7 ≤ 2000 := by omega
                  have HB3 := Lib.hid hb3
                  have HBN7 := Lib.hid hbn7
                  have HO7 := Lib.hid hown7
                  have hFr := HFr.out.below hbr (by omega)
                  obtain ⟨f0, f1⟩ := blk_cell2 hFr
                  have m0 := hFr.lt
                  unfold maxLen at hcm7
                  clear hb3 hbn7 hown7 hFr hln5
                  by_cases hlt : j < gd.length
                  · obtain ⟨bg, og, gn, gs, rfl, hBg, hg, g0, g1⟩ := pl_elem (l := gd) (w := wr) (HGD.out.below hbr) hlt
                    have HST := Lib.hid (st3_succ (e := e) (b := tt.1) hg)
                    clear hg f0 f1 m0
                    by_cases hc1 : (n7 : Int) < e
                    · have d1 : decide ((n7 : Int) < e) = true := decide_eq_true hc1
                      by_cases hc2 : n7 < 5
                      · cases hnb : nodeB b3 gn (-1) with
                        | true =>
                          have hp3 : st3 e tt.1 gd (j + 1) = b3 := by
                            rw [HST.out, HB3.out]
                            refine ph3_no fun h => h.2.2 ?_
                            rw [nodeB_neg] at hnb
                            exact of_decide_eq_true hnb
                          have HP := Lib.hid hp3
                          have HNB := Lib.hid hnb
                          clear hp3 hnb
                          go_wp2_with fail
                          refine (node_at b3 n7 HBN7.out A7 c7 gn (-1) true HNB.out wr (Reads.of_own HO7.out) (by omega)).mono ?_
                          rintro e6 w6 ⟨rfl, rfl⟩
                          go_wp2_with fail
                          go_roundw
                          case rel => exact ⟨j + 1, by omega, by go_num, by rw [HP.out]; exact RQ.of HBN7.out HO7.out, hbr⟩
                          case measure => simp [intOf]; omega
                        | false =>
                          have hp3 : st3 e tt.1 gd (j + 1) = b3 ++ [⟨gn, gs⟩] := by
                            rw [HST.out, HB3.out]
                            refine ph3_yes ⟨by rw [HBN7.out]; exact hc1, by rw [HBN7.out]; exact hc2, ?_⟩
                            rw [nodeB_neg] at hnb
                            exact of_decide_eq_false hnb
                          have HP := Lib.hid hp3
                          have HNB := Lib.hid hnb
                          clear hp3 hnb
                          go_wp2_with fail
                          refine (node_at b3 n7 HBN7.out A7 c7 gn (-1) false HNB.out wr (Reads.of_own HO7.out) (by omega)).mono ?_
                          rintro e6 w6 ⟨rfl, rfl⟩
                          go_wp2_with (at_builtin; go_loud (refine wpList_append_any _ rfl (.tmp 186) (.tmp 191) 23 rfl B0 37 i0 _ 2 16 Try.underlying23 hi hz0 hz1 hz2 rfl (by decide) _ _ _ rfl (own_below HO7.out ((Below.refl _ _).alloc (Nat.le_refl _) _)) _ (some ⟨wr.heap.size, 0, none⟩) 1 1 (Pl.cs ⟨gn, gs⟩) rfl (Reads.of_blk (Blk.new _ 37 #[.int .i64 gn, .int .u64 gs]) rfl rfl) (pl_one1 gn gs) (by simp only [maxLen]; omega) (by omega) (by simp; omega) ?_))
                          intro v' w9 hown9 hgr9 hat9
                          have hb9 : Below B0 wa w9 := (hbr.alloc (by omega) _).grown hgr9 (by simp; omega) (fun k ek => (HO7.out.lt k ek).1)
                          have hrq9 : RQ B0 (st3 e tt.1 gd (j + 1)) v' w9 := RQ.of (n := n7 + 1) (by rw [HP.out, List.length_append, HBN7.out, List.length_singleton]) (by rw [HP.out, List.flatMap_append, List.flatMap_singleton]; exact hown9)
                          have HRQ9 := Lib.hid hrq9
                          clear hown9 hgr9 hat9 hrq9 g0 g1
                          go_wp2_with fail
                          go_roundw
                          case rel => exact ⟨j + 1, by omega, by go_num, HRQ9.out, hb9⟩
                          case measure => simp [intOf]; omega
                      · have hp3 : st3 e tt.1 gd (j + 1) = b3 := by
                          rw [HST.out, HB3.out]
                          exact ph3_no fun h => hc2 (by rw [HBN7.out] at h; exact h.2.1)
                        have HP := Lib.hid hp3
                        clear hp3
                        go_wp2_with fail
                        go_roundw
                        case rel => exact ⟨j + 1, by omega, by go_num, by rw [HP.out]; exact RQ.of HBN7.out HO7.out, hbr⟩
                        case measure => simp [intOf]; omega
                    · have d1 : decide ((n7 : Int) < e) = false := decide_eq_false hc1
                      have hp3 : st3 e tt.1 gd (j + 1) = b3 := by
                        rw [HST.out, HB3.out]
                        exact ph3_no fun h => hc1 (by rw [HBN7.out] at h; exact h.1)
                      have HP := Lib.hid hp3
                      clear hp3
                      go_wp2_with fail
                      go_roundw
                      case rel => exact ⟨j + 1, by omega, by go_num, by rw [HP.out]; exact RQ.of HBN7.out HO7.out, hbr⟩
                      case measure => simp [intOf]; omega
                  · have hjl3 : j = gd.length := by omega
                    subst hjl3
                    have kR := HRr.out.below hbr hwr
                    obtain ⟨d0, d1⟩ := blk_cell2 kR
                    have dl := kR.lt
                    have df := kR.frozen
                    clear kR
                    go_wp2_with fail
                    rw [HREN'.out, HB3.out]
                    refine bodyPost_ret (v := .tuple #[.agg #[.int .u64 first, .slice A7 n7 c7], .bool true]) (by simp [results, Try.results14, go_sem, d0, d1]) rfl ?_
                    have hb8 := HBN7.out
                    subst hb8
                    refine ⟨A7, c7, rfl, below_set2 (HBW.out.trans (hbr.mono (by omega))) (by omega) _ _, hnc7, hcm7, own_low (ownsRow_setCell_below (ownsRow_setCell_below HO7.out (a := ⟨w.heap.size + 1, 0, none⟩) (by show w.heap.size + 1 < B0; omega) _) (a := ⟨w.heap.size + 1, 1, none⟩) (by show w.heap.size + 1 < B0; omega) _) (by omega)⟩
end Go.Proofs.Ytcmidhecmhbeoaa
