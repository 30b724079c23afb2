/- StripePicks: the law is true at all arguments. -/
import Derived.Test.YtcmidhecmhbeoaaAwk
import Derived.Test.YtcmidhecmhbeoaaCopy
import Derived.Test.YtcmidhecmhbeoaaWalkN
namespace Go.Proofs.Ytcmidhecmhbeoaa
open Go.RowKit

theorem longB_one {k : Nat} {W : Int} {A1 : Option Addr} {k1 c1 : Nat} (h : longB k W [⟨A1, k1, c1⟩] = false) : k ≤ 30 ∧ W ≤ 1000 ∧ k1 ≤ 60 := by
  simp [longB] at h
  omega

/-- A swap's answer, as cells and a row. -/
theorem givesF_open {w w' : World} {first : Int} {r : Option (List Pl)} {e : Ending} (h : GivesF w first r e w') :
    ∃ A' c', e = .returned (.tuple #[.agg #[.int .u64 (if r.isSome then first else 0), .slice A' (r.getD []).length c'], .bool r.isSome]) ∧ Below w.heap.size w w' ∧ Reads w' w'.heap.size 2 A' (r.getD []).length ((r.getD []).flatMap Pl.cs) := by
  cases r with
  | none => exact ⟨none, 0, h.1, h.2, Reads.none_⟩
  | some l =>
    obtain ⟨A', c', he, hb, _, _, ho⟩ := h
    exact ⟨A', c', he, hb, Reads.of_own ho⟩
theorem givesE_open {w w' : World} {p : List Pl × Int} {e : Ending} (h : GivesE w p e w') : ∃ A' c', e = .returned (.tuple #[.slice A' p.1.length c', .int .i64 p.2]) ∧ Below w.heap.size w w' ∧ PR w' w'.heap.size A' p.1 := by
  obtain ⟨A', c', he, hb, _, _, ho⟩ := h
  exact ⟨A', c', he, hb, Reads.of_own ho⟩

set_option maxRecDepth 100000 in
set_option maxHeartbeats 4000000 in
theorem lawPicks_any (e W first : Int) (kn l : List Pl) (nt : List Int) (old fresh : Pl) (A A1 A2 : Option Addr) (c c1 c2 : Nat) (w : World) (h1 : PR w w.heap.size A1 kn) (h2 : Reads w w.heap.size 1 A2 nt.length (nt.map (.int .i64))) (h : PR w w.heap.size A l)
    (hm1 : kn.length ≤ maxLen) (hm2 : nt.length ≤ maxLen) :
    Calls Try.prog 9 #[.slice A1 kn.length c1, .int .i64 e, .int .i64 W, .slice A2 nt.length c2, .agg #[.int .u64 first, .slice A l.length c], .agg #[.int .i64 old.n, .int .u64 old.s], .agg #[.int .i64 fresh.n, .int .u64 fresh.s]] w fun e w' => e = .returned (.bool true) ∧ Below w.heap.size w w' := by
  have H := Lib.hid h
  have H1 := Lib.hid h1
  have H2 := Lib.hid h2
  clear h h1 h2
  unfold maxLen at hm2
  obtain ⟨W0, hW0⟩ : ∃ W0, W0 = ((((w.alloc (.cells #[.int .u64 first, .slice A l.length c] 25)).alloc (.cells #[.int .i64 old.n, .int .u64 old.s] 37)).alloc (.cells #[.int .i64 fresh.n, .int .u64 fresh.s] 37)).alloc (.cells #[.int .u64 first, .slice A l.length c] 25)).alloc (.cells #[.slice A1 kn.length c1] 23) := ⟨_, rfl⟩
  have hb0 : Below w.heap.size w W0 := by rw [hW0]; exact (((((Below.refl _ _).alloc (Nat.le_refl _) _).alloc (by simp) _).alloc (by simp; omega) _).alloc (by simp; omega) _).alloc (by simp; omega) _
  have hF : Blk W0 w.heap.size 25 #[.int .u64 first, .slice A l.length c] := by rw [hW0]; exact ((((Blk.new _ _ _).alloc _).alloc _).alloc _).alloc _
  have hO : Blk W0 (w.heap.size + 1) 37 #[.int .i64 old.n, .int .u64 old.s] := by rw [hW0]; exact (((blk_newAt (by simp) _ _).alloc _).alloc _).alloc _
  have hN : Blk W0 (w.heap.size + 1 + 1) 37 #[.int .i64 fresh.n, .int .u64 fresh.s] := by rw [hW0]; exact ((blk_newAt (by simp) _ _).alloc _).alloc _
  have hG : Blk W0 (w.heap.size + 1 + 1 + 1) 25 #[.int .u64 first, .slice A l.length c] := by rw [hW0]; exact (blk_newAt (by simp) _ _).alloc _
  have hR : Blk W0 (w.heap.size + 1 + 1 + 1 + 1) 23 #[.slice A1 kn.length c1] := by rw [hW0]; exact blk_newAt (by simp) _ _
  have CL : Hid (Calls Try.prog 10 #[.slice (some ⟨w.heap.size + 1 + 1 + 1, 0, none⟩) 1 1, .int .i64 0, .slice (some ⟨w.heap.size + 1 + 1 + 1 + 1, 0, none⟩) 1 1] W0 fun e w' => e = .returned (.bool (longB l.length 0 [⟨A1, kn.length, c1⟩])) ∧ W0 = w') :=
    Lib.hid (long_any first 0 A _ l.length c _ 0 1 1 [⟨A1, kn.length, c1⟩] _ W0 (FC.of_blk hG) (Reads.of_blk hR rfl rfl) (by simp) (by simp; omega))
  have HW0 := Lib.hid hW0
  have HF := Lib.hid hF
  have HO := Lib.hid hO
  have HN := Lib.hid hN
  have hFl := hF.lt
  have hOl := hO.lt
  have hNl := hN.lt
  have hend : ∀ w2, Below W0.heap.size W0 w2 → Below w.heap.size w w2 := fun w2 hb => hb0.trans (hb.mono hb0.size)
  have HE := Lib.hid hend
  clear hG hR hend hF hO hN hW0
  by_cases hlb : longB l.length 0 [⟨A1, kn.length, c1⟩] = true
  · rw [hlb] at CL
    clear hlb
    go_enter Try.func9, Try.ntmps9
    go_wp2_with fail
    rw [← HW0.out]
    refine CL.out.mono ?_
    rintro e w1 ⟨rfl, rfl⟩
    go_wp2_with fail
    refine (awake_any _).mono ?_
    rintro e w8 ⟨rfl, hb12⟩
    go_wp2_with fail
    go_ret
    exact ⟨rfl, HE.out _ hb12⟩
  · have hlf := (Bool.not_eq_true _).mp hlb
    rw [hlf] at CL
    obtain ⟨hl, hw2, hkl⟩ := longB_one hlf
    clear hlf hlb hw2
    by_cases ha1 : 60 < nt.length
    · go_enter Try.func9, Try.ntmps9
      go_wp2_with fail
      rw [← HW0.out]
      refine CL.out.mono ?_
      rintro e w1 ⟨rfl, rfl⟩
      go_wp2_with fail
      refine (awake_any _).mono ?_
      rintro e w8 ⟨rfl, hb12⟩
      go_wp2_with fail
      go_ret
      exact ⟨rfl, HE.out _ hb12⟩
    · have hnl : nt.length ≤ 60 := by omega
      obtain ⟨⟨pl, pe⟩, hpp⟩ : ∃ p, pickP kn e W nt = p := ⟨_, rfl⟩
      obtain ⟨sl, hsl'⟩ : ∃ r, (swapL l old fresh).getD [] = r := ⟨_, rfl⟩
      obtain ⟨si, hsi'⟩ : ∃ r, (swapL l old fresh).isSome = r := ⟨_, rfl⟩
      obtain ⟨sf, hsf'⟩ : ∃ r : Int, (if (swapL l old fresh).isSome = true then first else 0) = r := ⟨_, rfl⟩
      have hpl : pl.length ≤ 60 := by
        have h1 := pickL_len e nt kn
        have h2 : pl = (pickP kn e W nt).1 := by rw [hpp]
        rw [h2]
        unfold pickP
        split
        · simp
        · split
          · simp
          · simp only []; omega
      have hsl : sl.length ≤ 30 := by
        rw [← hsl']
        unfold swapL
        split
        · simp
        · simp; omega
      have CP : Hid (∀ W', Below W0.heap.size W0 W' → Calls Try.prog 27 #[.slice A1 kn.length c1, .int .i64 e, .int .i64 W, .slice A2 nt.length c2] W' fun e' w' => GivesE W' (pl, pe) e' w') :=
        Lib.hid fun W' hb => by rw [← hpp]; exact pick_any kn nt e W A1 A2 c1 c2 w.heap.size W' (H1.out.below (HE.out _ hb)) (H2.out.below (HE.out _ hb)) (HE.out _ hb).size (by omega) (by omega)
      have CQ : Hid (∀ W', Below W0.heap.size W0 W' → Calls Try.prog 28 #[.slice A1 kn.length c1, .int .i64 e, .int .i64 W, .slice A2 nt.length c2] W' fun e' w' => GivesE W' (pl, pe) e' w') :=
        Lib.hid fun W' hb => by rw [← hpp]; exact rpick_any kn nt e W A1 A2 c1 c2 w.heap.size W' (H1.out.below (HE.out _ hb)) (H2.out.below (HE.out _ hb)) (HE.out _ hb).size (by omega) (by omega)
      have CS : Hid (∀ W', Below W0.heap.size W0 W' → Calls Try.prog 29 #[.agg #[.int .u64 first, .slice A l.length c], .agg #[.int .i64 old.n, .int .u64 old.s], .agg #[.int .i64 fresh.n, .int .u64 fresh.s]] W' fun e' w' => ∃ A' c', e' = .returned (.tuple #[.agg #[.int .u64 sf, .slice A' sl.length c'], .bool si]) ∧ Below W'.heap.size W' w' ∧ PR w' w'.heap.size A' sl) :=
        Lib.hid fun W' hb => (swap_any first old.n old.s fresh.n fresh.s l A c w.heap.size W' (H.out.below (HE.out _ hb)) (HE.out _ hb).size (by omega)).mono fun _ _ hh => by rw [← hsl', ← hsi', ← hsf']; exact givesF_open hh
      have CT : Hid (∀ W', Below W0.heap.size W0 W' → Calls Try.prog 30 #[.agg #[.int .u64 first, .slice A l.length c], .agg #[.int .i64 old.n, .int .u64 old.s], .agg #[.int .i64 fresh.n, .int .u64 fresh.s]] W' fun e' w' => ∃ A' c', e' = .returned (.tuple #[.agg #[.int .u64 sf, .slice A' sl.length c'], .bool si]) ∧ Below W'.heap.size W' w' ∧ PR w' w'.heap.size A' sl) :=
        Lib.hid fun W' hb => (rswap_any first old.n old.s fresh.n fresh.s l A c w.heap.size W' (H.out.below (HE.out _ hb)) (HE.out _ hb).size (by omega)).mono fun _ _ hh => by rw [← hsl', ← hsi', ← hsf']; exact givesF_open hh
      clear hpp hsl' hsi' hsf'
      go_enter Try.func9, Try.ntmps9
      go_wp2_with fail
      rw [← HW0.out]
      refine CL.out.mono ?_
      rintro e w1 ⟨rfl, rfl⟩
      go_wp2_with fail
      clear CL HW0
      refine (CP.out _ (Below.refl _ _)).mono ?_
      intro ee w1 hgv
      obtain ⟨A5, c5, rfl, hb1, hr5⟩ := givesE_open hgv
      have R5 := Lib.hid hr5
      clear hgv hr5 CP
      go_wp2_with fail
      refine (CQ.out _ hb1).mono ?_
      intro ee w2 hgv
      obtain ⟨A6, c6, rfl, hb2, hr6⟩ := givesE_open hgv
      have hb02 := hb1.trans (hb2.mono hb1.size)
      have R5 := Lib.hid (((R5.out : PR w1 w1.heap.size A5 pl).below hb2).more hb2.size)
      have R6 := Lib.hid hr6
      obtain ⟨f0, f1⟩ := blk_cell2 (HF.out.below hb02 hFl)
      clear hgv hr6 CQ hb1 hb2
      go_wp2_with fail
      have hF3 : FC (w2.alloc (.cells #[.int .u64 first, .slice A l.length c] 25)) w2.heap.size 0 first A l.length c := FC.of_blk (Blk.new _ _ _)
      have hP3 : PR (w2.alloc (.cells #[.int .u64 first, .slice A l.length c] 25)) (w2.alloc (.cells #[.int .u64 first, .slice A l.length c] 25)).heap.size A l := ((H.out.below (HE.out _ (hb02.alloc hb02.size _))).more (HE.out _ (hb02.alloc hb02.size _)).size)
      have CC := Lib.hid (copyFrags_any first l A c w2.heap.size 0 1 _ hF3 hP3 (by simp) (by omega))
      clear hF3 hP3
      refine CC.out.mono ?_
      rintro ee w3 ⟨g7, k7, A7, c7, rfl, hb3, hf7, hg7, hp7⟩
      have hb23 : Below w2.heap.size w2 w3 := ((Below.refl _ _).alloc (Nat.le_refl _) _).trans (hb3.mono (by simp))
      have hb03 := hb02.trans (hb23.mono hb02.size)
      have R5 := Lib.hid (((R5.out : PR w2 w2.heap.size A5 pl).below hb23).more hb23.size)
      have R6 := Lib.hid (((R6.out : PR w2 w2.heap.size A6 pl).below hb23).more hb23.size)
      have F7 := Lib.hid hf7
      have R7 := Lib.hid hp7
      replace f0 := (HF.out.below hb03 hFl).cell 0
      replace f1 := (HF.out.below hb03 hFl).cell 1
      obtain ⟨o0, o1⟩ := blk_cell2 (HO.out.below hb03 hOl)
      obtain ⟨n0, n1⟩ := blk_cell2 (HN.out.below hb03 hNl)
      clear hf7 hp7 hb3 hb23 CC hb02
      go_wp2_with fail
      refine (CS.out _ hb03).mono ?_
      rintro ee w4 ⟨A8, c8, rfl, hb4, hr8⟩
      have hb04 := hb03.trans (hb4.mono hb03.size)
      have R5 := Lib.hid (((R5.out : PR w3 w3.heap.size A5 pl).below hb4).more hb4.size)
      have R6 := Lib.hid (((R6.out : PR w3 w3.heap.size A6 pl).below hb4).more hb4.size)
      have R7 := Lib.hid (((R7.out : PR w3 w3.heap.size A7 l).below hb4).more hb4.size)
      have F7 := Lib.hid (F7.out.below hb4 hg7)
      have hg7 := Nat.lt_of_lt_of_le hg7 hb4.size
      have R8 := Lib.hid hr8
      replace f0 := (HF.out.below hb04 hFl).cell 0
      replace f1 := (HF.out.below hb04 hFl).cell 1
      obtain ⟨o0, o1⟩ := blk_cell2 (HO.out.below hb04 hOl)
      obtain ⟨n0, n1⟩ := blk_cell2 (HN.out.below hb04 hNl)
      have m0 := (HF.out.below hb04 hFl).lt
      have m1 := (HO.out.below hb04 hOl).lt
      have m2 := (HN.out.below hb04 hNl).lt
      clear hr8 hb4 hb03 CS
      go_wp2_with fail
      have hb5 : Below w4.heap.size w4 (w4.alloc (.cells #[.int .u64 sf, .slice A8 sl.length c8] 25)) := (Below.refl _ _).alloc (Nat.le_refl _) _
      have hb05 := hb04.trans (hb5.mono hb04.size)
      have K8 := Lib.hid (Blk.new w4 25 #[.int .u64 sf, .slice A8 sl.length c8])
      refine (CT.out _ hb05).mono ?_
      rintro ee w6 ⟨A9, c9, rfl, hb6, hr9⟩
      have hb46 : Below w4.heap.size w4 w6 := hb5.trans (hb6.mono hb5.size)
      have hb06 := hb04.trans (hb46.mono hb04.size)
      have R5 := Lib.hid (((R5.out : PR w4 w4.heap.size A5 pl).below hb46).more hb46.size)
      have R6 := Lib.hid (((R6.out : PR w4 w4.heap.size A6 pl).below hb46).more hb46.size)
      have R7 := Lib.hid (((R7.out : PR w4 w4.heap.size A7 l).below hb46).more hb46.size)
      have R8 := Lib.hid (((R8.out : PR w4 w4.heap.size A8 sl).below hb46).more hb46.size)
      have F7 := Lib.hid (F7.out.below hb46 hg7)
      have hg7 := Nat.lt_of_lt_of_le hg7 hb46.size
      have K8 := Lib.hid (K8.out.below hb6 (by simp))
      have hg8 := K8.out.lt
      have R9 := Lib.hid hr9
      clear f0 f1 o0 o1 n0 n1 m0 m1 m2 hr9 hb5 hb6 hb05 hb46 CT
      obtain ⟨z0, z1⟩ := blk_cell2 K8.out
      obtain ⟨f0, f1⟩ := blk_cell2 (HF.out.below hb06 hFl)
      have m0 := (HF.out.below hb06 hFl).lt
      have ee1 : (pe == pe) = true := by simp
      have ee2 : (si == si) = true := by simp
      go_wp2_with fail
      have hb67 : Below w6.heap.size w6 (w6.alloc (.cells #[.int .u64 sf, .slice A9 sl.length c9] 25)) := (Below.refl _ _).alloc (Nat.le_refl _) _
      have hb07 := hb06.trans (hb67.mono hb06.size)
      have K9 := Lib.hid (Blk.new w6 25 #[.int .u64 sf, .slice A9 sl.length c9])
      refine (same_yes pl pl.length rfl A5 A6 c5 c6 _ (((R5.out : PR w6 w6.heap.size A5 pl).below hb67).more hb67.size) (((R6.out : PR w6 w6.heap.size A6 pl).below hb67).more hb67.size) (by omega)).mono ?_
      rintro ee w8 ⟨rfl, hb8⟩
      have hb68 : Below w6.heap.size w6 w8 := hb67.trans (hb8.mono hb67.size)
      have hb08 := hb06.trans (hb68.mono hb06.size)
      have R7 := Lib.hid (((R7.out : PR w6 w6.heap.size A7 l).below hb68).more hb68.size)
      have R8 := Lib.hid (((R8.out : PR w6 w6.heap.size A8 sl).below hb68).more hb68.size)
      have R9 := Lib.hid (((R9.out : PR w6 w6.heap.size A9 sl).below hb68).more hb68.size)
      have F7 := Lib.hid (F7.out.below hb68 hg7)
      have hg7 := Nat.lt_of_lt_of_le hg7 hb68.size
      have K8 := Lib.hid (K8.out.below hb68 hg8)
      have K9 := Lib.hid (K9.out.below hb8 (by simp))
      have hg8 := K8.out.lt
      have hg9 := K9.out.lt
      clear z0 z1 f0 f1 m0 hb67 hb07 hb8 hb68 R5 R6
      obtain ⟨z0, z1⟩ := blk_cell2 K8.out
      obtain ⟨y0, y1⟩ := blk_cell2 K9.out
      go_wp2_with fail
      have hW9 : Below w8.heap.size w8 ((w8.alloc (.cells #[.int .u64 sf, .slice A8 sl.length c8] 25)).alloc (.cells #[.int .u64 sf, .slice A9 sl.length c9] 25)) := ((Below.refl _ _).alloc (Nat.le_refl _) _).alloc (by simp) _
      have hG8 : FC ((w8.alloc (.cells #[.int .u64 sf, .slice A8 sl.length c8] 25)).alloc (.cells #[.int .u64 sf, .slice A9 sl.length c9] 25)) w8.heap.size 0 sf A8 sl.length c8 := FC.of_blk ((Blk.new _ _ _).alloc _)
      have hG9 : FC ((w8.alloc (.cells #[.int .u64 sf, .slice A8 sl.length c8] 25)).alloc (.cells #[.int .u64 sf, .slice A9 sl.length c9] 25)) (w8.heap.size + 1) 0 sf A9 sl.length c9 := FC.of_blk (blk_newAt (by simp) _ _)
      have CF := Lib.hid (sameFrags_any sf sf sl sl A8 A9 c8 c9 w8.heap.size 0 1 (w8.heap.size + 1) 0 1 _ hG8 hG9 (by simp; omega) (by simp) (((R8.out : PR w8 w8.heap.size A8 sl).below hW9).more hW9.size) (((R9.out : PR w8 w8.heap.size A9 sl).below hW9).more hW9.size) (by omega))
      refine CF.out.mono ?_
      rw [decide_eq_true (show sf = sf ∧ sl = sl from ⟨rfl, rfl⟩)]
      rintro ee w9 ⟨rfl, hb9⟩
      have hb89 : Below w8.heap.size w8 w9 := hW9.trans (hb9.mono hW9.size)
      have hb09 := hb08.trans (hb89.mono hb08.size)
      have R7 := Lib.hid (((R7.out : PR w8 w8.heap.size A7 l).below hb89).more hb89.size)
      have F7 := Lib.hid (F7.out.below hb89 hg7)
      have hg7 := Nat.lt_of_lt_of_le hg7 hb89.size
      have hRL := ((H.out.below (HE.out _ hb09)).more (HE.out _ hb09).size)
      have HRL := Lib.hid hRL
      clear z0 z1 y0 y1 hW9 hG8 hG9 CF hb9 hb89 hb08 hRL
      obtain ⟨f0, f1⟩ := blk_cell2 (HF.out.below hb09 hFl)
      have m0 := (HF.out.below hb09 hFl).lt
      go_wp2_with fail
      have hWa : Below w9.heap.size w9 (w9.alloc (.cells #[.int .u64 first, .slice A l.length c] 25)) := (Below.refl _ _).alloc (Nat.le_refl _) _
      have hGa : FC (w9.alloc (.cells #[.int .u64 first, .slice A l.length c] 25)) w9.heap.size 0 first A l.length c := FC.of_blk (Blk.new _ _ _)
      have CG := Lib.hid (sameFrags_any first first l l A7 A c7 c g7 0 k7 w9.heap.size 0 1 _ (F7.out.below hWa hg7) hGa (by simp; omega) (by simp) (((R7.out : PR w9 w9.heap.size A7 l).below hWa).more hWa.size) (((HRL.out : PR w9 w9.heap.size A l).below hWa).more hWa.size) (by omega))
      refine CG.out.mono ?_
      rw [decide_eq_true (show first = first ∧ l = l from ⟨rfl, rfl⟩)]
      rintro ee w10 ⟨rfl, hb10⟩
      have hb010 := hb09.trans ((hWa.trans (hb10.mono hWa.size)).mono hb09.size)
      clear f0 f1 m0 hWa hGa CG hb10 hb09
      go_wp2_with fail
      refine (awake_any _).mono ?_
      rintro e w11 ⟨rfl, hb12⟩
      go_wp2_with fail
      go_ret
      exact ⟨rfl, HE.out _ (hb010.trans (hb12.mono hb010.size))⟩
end Go.Proofs.Ytcmidhecmhbeoaa
