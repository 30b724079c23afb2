/- StripeRenews: the law is true at all arguments. -/
import Derived.Test.YtcmidhecmhbeoaaLawFresh
import Derived.Test.YtcmidhecmhbeoaaRefB
namespace Go.Proofs.Ytcmidhecmhbeoaa
open Go.RowKit

theorem renP_len (l bad kn : List Pl) (W e : Int) : ((renP l W e bad kn).getD []).length ≤ l.length + kn.length := by
  unfold renP
  simp only []
  split
  · have h1 := st3_len e (st2 W (st1 l bad (keepL bad kn) l.length) (st1 l bad (keepL bad kn) l.length).2.1.length).1 (keepL bad kn) (keepL bad kn).length
    have h2 := st2_len W (st1 l bad (keepL bad kn) l.length) (st1 l bad (keepL bad kn) l.length).2.1.length
    have h3 := (st1_len l bad (keepL bad kn) l.length (Nat.le_refl _)).1
    have h4 := keepL_len bad kn
    simp only [Option.getD_some]
    omega
  · simp

set_option maxRecDepth 100000 in
set_option maxHeartbeats 4000000 in
theorem lawRenews_any (first W e : Int) (l bad kn : List Pl) (A A3 A4 : Option Addr) (c c3 c4 : Nat) (w : World) (h : PR w w.heap.size A l) (h3 : PR w w.heap.size A3 bad) (h4 : PR w w.heap.size A4 kn) (hm3 : bad.length ≤ maxLen) (hm4 : kn.length ≤ maxLen) :
    Calls Try.prog 3 #[.agg #[.int .u64 first, .slice A l.length c], .int .i64 W, .int .i64 e, .slice A3 bad.length c3, .slice A4 kn.length c4] w fun e w' => e = .returned (.bool true) ∧ Below w.heap.size w w' := by
  have H := Lib.hid h
  have H3 := Lib.hid h3
  have H4 := Lib.hid h4
  clear h h3 h4
  obtain ⟨W0, hW0⟩ : ∃ W0, W0 = ((w.alloc (.cells #[.int .u64 first, .slice A l.length c] 25)).alloc (.cells #[.int .u64 first, .slice A l.length c] 25)).alloc (.cells #[.slice A3 bad.length c3, .slice A4 kn.length c4] 23) := ⟨_, rfl⟩
  have hb0 : Below w.heap.size w W0 := by rw [hW0]; exact (((Below.refl _ _).alloc (Nat.le_refl _) _).alloc (by simp) _).alloc (by simp; omega) _
  have hF : Blk W0 w.heap.size 25 #[.int .u64 first, .slice A l.length c] := by rw [hW0]; exact ((Blk.new _ _ _).alloc _).alloc _
  have hG : Blk W0 (w.heap.size + 1) 25 #[.int .u64 first, .slice A l.length c] := by rw [hW0]; exact (blk_newAt (by simp) _ _).alloc _
  have hR : Blk W0 (w.heap.size + 1 + 1) 23 #[.slice A3 bad.length c3, .slice A4 kn.length c4] := by rw [hW0]; exact blk_newAt (by simp) _ _
  have CL : Hid (Calls Try.prog 10 #[.slice (some ⟨w.heap.size + 1, 0, none⟩) 1 1, .int .i64 W, .slice (some ⟨w.heap.size + 1 + 1, 0, none⟩) 2 2] W0 fun e w' => e = .returned (.bool (longB l.length W [⟨A3, bad.length, c3⟩, ⟨A4, kn.length, c4⟩])) ∧ W0 = w') :=
    Lib.hid (long_any first W A _ l.length c _ 0 1 2 [⟨A3, bad.length, c3⟩, ⟨A4, kn.length, c4⟩] _ W0 (FC.of_blk hG) (Reads.of_blk hR rfl rfl) (by simp) (by simp; omega))
  have HW0 := Lib.hid hW0
  have HF := Lib.hid hF
  have hFl := hF.lt
  have hend : ∀ w2, Below W0.heap.size W0 w2 → Below w.heap.size w w2 := fun w2 hb => hb0.trans (hb.mono hb0.size)
  have HE := Lib.hid hend
  have HP := Lib.hid ((H.out.below hb0).more hb0.size)
  have f0 := hF.cell 0
  have f1 := hF.cell 1
  have hs0 : w.heap.size ≤ W0.heap.size := hb0.size
  clear hG hR hend hF hW0
  by_cases hlb : longB l.length W [⟨A3, bad.length, c3⟩, ⟨A4, kn.length, c4⟩] = true
  · rw [hlb] at CL
    clear hlb
    go_enter Try.func3, Try.ntmps3
    go_wp2_with fail
    rw [← HW0.out]
    refine CL.out.mono ?_
    rintro e w1 ⟨rfl, rfl⟩
    go_wp2_with fail
    refine (awake_any _).mono ?_
    rintro e w8 ⟨rfl, hb12⟩
    go_wp2_with fail
    go_ret
    exact ⟨rfl, HE.out _ (hb12)⟩
  · have hlf := (Bool.not_eq_true _).mp hlb
    rw [hlf] at CL
    obtain ⟨hl, hw2, hl3, hl4⟩ := longB_two hlf
    clear hlf hlb
    obtain ⟨sl, hsl'⟩ : ∃ r, (renP l W e bad kn).getD [] = r := ⟨_, rfl⟩
    obtain ⟨si, hsi'⟩ : ∃ r, (renP l W e bad kn).isSome = r := ⟨_, rfl⟩
    obtain ⟨sf, hsf'⟩ : ∃ r : Int, (if (renP l W e bad kn).isSome = true then first else 0) = r := ⟨_, rfl⟩
    have hsl : sl.length ≤ 90 := by
      rw [← hsl']
      have := renP_len l bad kn W e
      omega
    have CS : Hid (∀ W', Below W0.heap.size W0 W' → Calls Try.prog 13 #[.agg #[.int .u64 first, .slice A l.length c], .int .i64 W, .int .i64 e, .slice A3 bad.length c3, .slice A4 kn.length c4] W' fun e' w' => ∃ A' c', e' = .returned (.tuple #[.agg #[.int .u64 sf, .slice A' sl.length c'], .bool si]) ∧ Below W'.heap.size W' w' ∧ PR w' w'.heap.size A' sl) :=
      Lib.hid fun W' hb => (renew_any first W e l bad kn A A3 A4 c c3 c4 W' ((H.out.below (HE.out _ hb)).more (HE.out _ hb).size) ((H3.out.below (HE.out _ hb)).more (HE.out _ hb).size) ((H4.out.below (HE.out _ hb)).more (HE.out _ hb).size) (by omega) (by omega) (by omega)).mono fun _ _ hh => by rw [← hsl', ← hsi', ← hsf']; exact givesF_open hh
    have CT : Hid (∀ W', Below W0.heap.size W0 W' → Calls Try.prog 14 #[.agg #[.int .u64 first, .slice A l.length c], .int .i64 W, .int .i64 e, .slice A3 bad.length c3, .slice A4 kn.length c4] W' fun e' w' => ∃ A' c', e' = .returned (.tuple #[.agg #[.int .u64 sf, .slice A' sl.length c'], .bool si]) ∧ Below W'.heap.size W' w' ∧ PR w' w'.heap.size A' sl) :=
      Lib.hid fun W' hb => (rrenew_any first W e l bad kn A A3 A4 c c3 c4 W' ((H.out.below (HE.out _ hb)).more (HE.out _ hb).size) ((H3.out.below (HE.out _ hb)).more (HE.out _ hb).size) ((H4.out.below (HE.out _ hb)).more (HE.out _ hb).size) (by omega) (by omega) (by omega)).mono fun _ _ hh => by rw [← hsl', ← hsi', ← hsf']; exact givesF_open hh
    clear hsl' hsi' hsf'
    go_enter Try.func3, Try.ntmps3
    go_wp2_with fail
    rw [← HW0.out]
    refine CL.out.mono ?_
    rintro e w2 ⟨rfl, hw2'⟩
    subst hw2'
    go_wp2_with fail
    clear CL HW0
    have hF3 : FC (W0.alloc (.cells #[.int .u64 first, .slice A l.length c] 25)) W0.heap.size 0 first A l.length c := FC.of_blk (Blk.new _ _ _)
    have hP3 : PR (W0.alloc (.cells #[.int .u64 first, .slice A l.length c] 25)) (W0.alloc (.cells #[.int .u64 first, .slice A l.length c] 25)).heap.size A l := (HP.out.alloc (Nat.le_refl _) _).more (by simp)
    have CC := Lib.hid (copyFrags_any first l A c W0.heap.size 0 1 _ hF3 hP3 (by simp) (by omega))
    clear hF3 hP3
    refine CC.out.mono ?_
    rintro ee w3 ⟨g7, k7, A7, c7, rfl, hb3, hf7, hg7, hp7⟩
    have hb03 : Below W0.heap.size W0 w3 := ((Below.refl _ _).alloc (Nat.le_refl _) _).trans (hb3.mono (by simp))
    have F7 := Lib.hid hf7
    have R7 := Lib.hid hp7
    clear hf7 hp7 hb3 CC f0 f1
    have f0 := (HF.out.below hb03 hFl).cell 0
    have f1 := (HF.out.below hb03 hFl).cell 1
    go_wp2_with fail
    refine (CS.out _ hb03).mono ?_
    rintro ee w4 ⟨A8, c8, rfl, hb4, hr8⟩
    have hb04 := hb03.trans (hb4.mono hb03.size)
    have R7 := Lib.hid (((R7.out : PR w3 w3.heap.size A7 l).below hb4).more hb4.size)
    have F7 := Lib.hid (F7.out.below hb4 hg7)
    have hg7 := Nat.lt_of_lt_of_le hg7 hb4.size
    have R8 := Lib.hid hr8
    clear f0 f1
    have f0 := (HF.out.below hb04 hFl).cell 0
    have f1 := (HF.out.below hb04 hFl).cell 1
    have m0 := (HF.out.below hb04 hFl).lt
    clear hr8 hb4 hb03 CS
    go_wp2_with fail
    have hb5 : Below w4.heap.size w4 (w4.alloc (.cells #[.int .u64 sf, .slice A8 sl.length c8] 25)) := (Below.refl _ _).alloc (Nat.le_refl _) _
    have hb05 := hb04.trans (hb5.mono hb04.size)
    have K8 := Lib.hid (Blk.new w4 25 #[.int .u64 sf, .slice A8 sl.length c8])
    refine (CT.out _ hb05).mono ?_
    rintro ee w6 ⟨A9, c9, rfl, hb6, hr9⟩
    have hb46 : Below w4.heap.size w4 w6 := hb5.trans (hb6.mono hb5.size)
    have hb06 := hb04.trans (hb46.mono hb04.size)
    have R7 := Lib.hid (((R7.out : PR w4 w4.heap.size A7 l).below hb46).more hb46.size)
    have R8 := Lib.hid (((R8.out : PR w4 w4.heap.size A8 sl).below hb46).more hb46.size)
    have F7 := Lib.hid (F7.out.below hb46 hg7)
    have hg7 := Nat.lt_of_lt_of_le hg7 hb46.size
    have K8 := Lib.hid (K8.out.below hb6 (by simp))
    have hg8 := K8.out.lt
    have R9 := Lib.hid hr9
    clear f0 f1 m0 hr9 hb5 hb6 hb05 hb46 CT
    obtain ⟨z0, z1⟩ := blk_cell2 K8.out
    obtain ⟨f0, f1⟩ := blk_cell2 (HF.out.below hb06 hFl)
    have m0 := (HF.out.below hb06 hFl).lt
    have ee2 : (si == si) = true := by simp
    go_wp2_with fail
    have hW9 : Below w6.heap.size w6 (((w6.alloc (Obj.cells #[Value.int IntKind.u64 sf, Value.slice A9 sl.length c9] 25)).alloc (Obj.cells #[Value.int IntKind.u64 sf, Value.slice A8 sl.length c8] 25)).alloc (Obj.cells #[Value.int IntKind.u64 sf, Value.slice A9 sl.length c9] 25)) := (((Below.refl _ _).alloc (Nat.le_refl _) _).alloc (by simp) _).alloc (by simp; omega) _
    have hG8 : FC (((w6.alloc (Obj.cells #[Value.int IntKind.u64 sf, Value.slice A9 sl.length c9] 25)).alloc (Obj.cells #[Value.int IntKind.u64 sf, Value.slice A8 sl.length c8] 25)).alloc (Obj.cells #[Value.int IntKind.u64 sf, Value.slice A9 sl.length c9] 25)) (w6.heap.size + 1) 0 sf A8 sl.length c8 := FC.of_blk ((blk_newAt (by simp) _ _).alloc _)
    have hG9 : FC (((w6.alloc (Obj.cells #[Value.int IntKind.u64 sf, Value.slice A9 sl.length c9] 25)).alloc (Obj.cells #[Value.int IntKind.u64 sf, Value.slice A8 sl.length c8] 25)).alloc (Obj.cells #[Value.int IntKind.u64 sf, Value.slice A9 sl.length c9] 25)) (w6.heap.size + 1 + 1) 0 sf A9 sl.length c9 := FC.of_blk (blk_newAt (by simp) _ _)
    have CF := Lib.hid (sameFrags_any sf sf sl sl A8 A9 c8 c9 (w6.heap.size + 1) 0 1 (w6.heap.size + 1 + 1) 0 1 _ hG8 hG9 (by simp) (by simp) (((R8.out : PR w6 w6.heap.size A8 sl).below hW9).more hW9.size) (((R9.out : PR w6 w6.heap.size A9 sl).below hW9).more hW9.size) (by omega))
    refine CF.out.mono ?_
    rw [decide_eq_true (show sf = sf ∧ sl = sl from ⟨rfl, rfl⟩)]
    rintro ee w9 ⟨rfl, hb9⟩
    have hb69 : Below w6.heap.size w6 w9 := hW9.trans (hb9.mono hW9.size)
    have hb09 := hb06.trans (hb69.mono hb06.size)
    have R7 := Lib.hid (((R7.out : PR w6 w6.heap.size A7 l).below hb69).more hb69.size)
    have F7 := Lib.hid (F7.out.below hb69 hg7)
    have hg7 := Nat.lt_of_lt_of_le hg7 hb69.size
    have hRL := ((H.out.below (HE.out _ hb09)).more (HE.out _ hb09).size)
    have HRL := Lib.hid hRL
    clear z0 z1 f0 f1 m0 hW9 hG8 hG9 CF hb9 hb69 hb06 hRL
    obtain ⟨f0, f1⟩ := blk_cell2 (HF.out.below hb09 hFl)
    have m0 := (HF.out.below hb09 hFl).lt
    go_wp2_with fail
    have hWa : Below w9.heap.size w9 (w9.alloc (.cells #[.int .u64 first, .slice A l.length c] 25)) := (Below.refl _ _).alloc (Nat.le_refl _) _
    have hGa : FC (w9.alloc (.cells #[.int .u64 first, .slice A l.length c] 25)) w9.heap.size 0 first A l.length c := FC.of_blk (Blk.new _ _ _)
    have CG := Lib.hid (sameFrags_any first first l l A7 A c7 c g7 0 k7 w9.heap.size 0 1 _ (F7.out.below hWa hg7) hGa (by simp; omega) (by simp) (((R7.out : PR w9 w9.heap.size A7 l).below hWa).more hWa.size) (((HRL.out : PR w9 w9.heap.size A l).below hWa).more hWa.size) (by omega))
    refine CG.out.mono ?_
    rw [decide_eq_true (show first = first ∧ l = l from ⟨rfl, rfl⟩)]
    rintro ee w10 ⟨rfl, hb10⟩
    have hb010 := hb09.trans ((hWa.trans (hb10.mono hWa.size)).mono hb09.size)
    clear f0 f1 m0 hWa hGa CG hb10 hb09
    go_wp2_with fail
    refine (awake_any _).mono ?_
    rintro e w11 ⟨rfl, hb12⟩
    go_wp2_with fail
    go_ret
    exact ⟨rfl, HE.out _ (hb010.trans (hb12.mono hb010.size))⟩
end Go.Proofs.Ytcmidhecmhbeoaa
