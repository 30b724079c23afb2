/- Chapter 14: the chapter's examples. -/
import Derived.Test.YtcmidhecmhbeoaaWalkQ
import Derived.Test.YtcmidhecmhbeoaaWalkL
namespace Go.Proofs.Ytcmidhecmhbeoaa
open Go.RowKit

theorem set_val (L : List Pl) (k : Nat) (hk : L.length = k) (first n W : Int) (l : List Pl) (A : Option Addr) (m c g o k1 : Nat) (w : World) (hm : l.length = m) (hf : FC w g o first A m c) (hp : PR w w.heap.size A l) (hg : g < w.heap.size) (hl : l.length ≤ 100000)
    (hn0 : 0 ≤ first) (hn1 : n ≤ 18446744073709551615) (hL : setP first l W n = L) :
    Calls Try.prog 18 #[.slice (some ⟨g, o, none⟩) 1 k1, .int .i64 W, .int .u64 n] w fun e w' => ∃ A' c', e = .returned (.slice A' k c') ∧ k ≤ c' ∧ Below w.heap.size w w' ∧ Reads w' w'.heap.size 2 A' k (L.flatMap Pl.cs) := by
  subst hm hk hL
  refine (set_any first n W l A c g o k1 w hf hp hg hl hn0 hn1).mono ?_
  rintro e w' ⟨A', c', he, hb, hc, hc2, ho⟩
  exact ⟨A', c', he, hc, hb, Reads.of_own ho⟩
theorem same_yes (l : List Pl) (n : Nat) (hn : l.length = n) (A A2 : Option Addr) (cap cap2 : Nat) (w : World) (h : Reads w w.heap.size 2 A n (l.flatMap Pl.cs)) (h2 : Reads w w.heap.size 2 A2 n (l.flatMap Pl.cs)) (hl : l.length ≤ 1000000) :
    Calls Try.prog 21 #[.slice A n cap, .slice A2 n cap2] w fun e w' => e = .returned (.bool true) ∧ Below w.heap.size w w' := by
  subst hn
  refine (same_any l l A A2 cap cap2 _ w h h2 (Nat.le_refl _) hl).mono ?_
  rintro e w' ⟨rfl, hb⟩
  exact ⟨ret_bool (by simp), hb⟩
theorem covered_val (v : Bool) (n m : Nat) (first W a : Int) (l fr : List Pl) (A A2 : Option Addr) (c cap2 : Nat) (w : World) (hn : l.length = n) (hm : fr.length = m) (h : Reads w w.heap.size 2 A n (l.flatMap Pl.cs)) (h2 : Reads w w.heap.size 2 A2 m (fr.flatMap Pl.cs)) (hl : l.length ≤ 100000) (hr : fr.length ≤ 100000)
    (hw1 : -1000000 ≤ W) (hw2 : W ≤ 1000000) (ha1 : -1000000 ≤ a) (ha2 : a ≤ 1000000) (hv : coverB l W a fr = v) :
    Calls Try.prog 20 #[.agg #[.int .u64 first, .slice A n c], .int .i64 W, .int .i64 a, .slice A2 m cap2] w fun e w' => e = .returned (.bool v) ∧ Below w.heap.size w w' := by
  subst hn hm hv
  exact covered_any first W a l fr A A2 c cap2 _ w h h2 (Nat.le_refl _) hl hr hw1 hw2 ha1 ha2
theorem pick_val (L : List Pl) (k : Nat) (r : Int) (hk : L.length = k) (l : List Pl) (nt : List Int) (e W : Int) (A A2 : Option Addr) (m m2 cap cap2 : Nat) (w : World) (hm : l.length = m) (hm2 : nt.length = m2) (h : Reads w w.heap.size 2 A m (l.flatMap Pl.cs)) (h2 : Reads w w.heap.size 1 A2 m2 (nt.map (.int .i64))) (hl : l.length ≤ 100000) (hl2 : nt.length ≤ 100000)
    (hL : pickP l e W nt = (L, r)) :
    Calls Try.prog 27 #[.slice A m cap, .int .i64 e, .int .i64 W, .slice A2 m2 cap2] w fun e' w' => ∃ A' c', e' = .returned (.tuple #[.slice A' k c', .int .i64 r]) ∧ k ≤ c' ∧ Below w.heap.size w w' ∧ Reads w' w'.heap.size 2 A' k (L.flatMap Pl.cs) := by
  subst hk hm hm2
  refine (pick_any l nt e W A A2 cap cap2 _ w h h2 (Nat.le_refl _) hl hl2).mono ?_
  rw [hL]
  rintro e' w' ⟨A', c', he, hb, hc, hc2, ho⟩
  exact ⟨A', c', he, hc, hb, Reads.of_own ho⟩

theorem awake_set3 : setP 3 threeL 2 3 = [⟨7, 1⟩, ⟨8, 1⟩] := by decide +kernel
theorem awake_set5 : setP 3 threeL 2 5 = [⟨9, 1⟩, ⟨7, 1⟩] := by decide +kernel
theorem awake_set2 : setP 3 threeL 2 2 = [] := by decide +kernel
theorem awake_pick2 : pickP threeL 3 2 [8] = ([⟨7, 1⟩, ⟨9, 1⟩], 0) := by decide +kernel
theorem awake_pick3 : pickP threeL 3 3 [8] = ([], 3) := by decide +kernel
theorem awake_cov7 : coverB threeL 2 2 [⟨7, 1⟩] = false := by decide +kernel
theorem awake_cov : coverB threeL 2 2 threeL = true := by decide +kernel

def awkSp (H g0 b3 o3 c3 : Nat) : List (Tmp × Rg.Spec) :=
  [(24, .is (.slice (some ⟨H + 1, 0, none⟩) 1 1)),
    (25, .rd 2 2 (([⟨7, 1⟩, ⟨8, 1⟩] : List Pl).flatMap Pl.cs)),
    (26, .is (.pointer (some ⟨H, 1, none⟩))),
    (27, .is (.slice (some ⟨g0, 0, none⟩) 3 3)),
    (28, .is (.slice (some ⟨g0, 0, none⟩) 2 3)),
    (29, .is (.bool true)),
    (30, .is (.bool true)),
    (31, .is (.slice (some ⟨H + 1, 0, none⟩) 1 1)),
    (32, .rd 2 2 (([⟨9, 1⟩, ⟨7, 1⟩] : List Pl).flatMap Pl.cs)),
    (33, .is (.agg #[.int .i64 9, .int .u64 1])),
    (34, .is (.agg #[.int .i64 7, .int .u64 1])),
    (35, .rd 2 2 (([⟨9, 1⟩, ⟨7, 1⟩] : List Pl).flatMap Pl.cs)),
    (36, .is (.bool true)),
    (37, .is (.bool true)),
    (38, .is (.bool true)),
    (39, .is (.slice (some ⟨H + 1, 0, none⟩) 1 1)),
    (40, .rd 2 0 (([] : List Pl).flatMap Pl.cs)),
    (41, .is (.int .i64 0)),
    (42, .is (.bool true)),
    (43, .is (.bool true)),
    (44, .is (.bool true)),
    (45, .is (.agg #[.int .u64 3, .slice (some ⟨g0, 0, none⟩) 3 3])),
    (46, .is (.agg #[.int .i64 7, .int .u64 1])),
    (47, .rd 2 1 (([⟨7, 1⟩] : List Pl).flatMap Pl.cs)),
    (48, .is (.bool false)),
    (49, .is (.bool true)),
    (50, .is (.bool true)),
    (51, .is (.bool true)),
    (52, .is (.agg #[.int .u64 3, .slice (some ⟨g0, 0, none⟩) 3 3])),
    (53, .is (.pointer (some ⟨H, 1, none⟩))),
    (54, .is (.slice (some ⟨g0, 0, none⟩) 3 3)),
    (55, .is (.bool true)),
    (56, .is (.bool true)),
    (57, .is (.bool true)),
    (58, .is (.int .i64 0)),
    (59, .is (.bool true)),
    (60, .is (.bool true)),
    (61, .is (.bool true)),
    (62, .is (.slice (some ⟨b3, o3, none⟩) 2 c3)),
    (63, .is (.int .i64 2)),
    (64, .is (.bool true)),
    (65, .is (.bool true)),
    (66, .is (.bool true)),
    (67, .is (.slice (some ⟨b3, o3, none⟩) 2 c3)),
    (68, .is (.pointer (some ⟨b3, o3 + 2, none⟩))),
    (69, .is (.agg #[.int .i64 9, .int .u64 1])),
    (70, .is (.agg #[.int .i64 9, .int .u64 1])),
    (71, .is (.bool true)),
    (72, .is (.bool true)),
    (73, .is (.bool true)),
    (74, .is (.int .i64 3)),
    (75, .is (.bool true)),
    (76, .is (.bool true))]

theorem looks_get {specs : List (Tmp × Rg.Spec)} {vals : Tmp → Value} {w : World} : ∀ {L : List Tmp}, Rs.looks specs vals w L → ∀ {t : Tmp}, L.contains t = true → Rs.look specs t (vals t) w
  | s :: L, h, t, ht => by
    rw [List.contains_cons, Bool.or_eq_true] at ht
    rcases ht with ht | ht
    · rw [beq_iff_eq.1 ht]; exact h.1
    · exact looks_get h.2 ht

set_option maxRecDepth 100000 in
set_option maxHeartbeats 8000000 in
theorem awake_any (w : World) : Calls Try.prog 11 #[] w fun e w' => e = .returned (.bool true) ∧ Below w.heap.size w w' := by
  go_enter Try.func11, Try.ntmps11
  go_wp2_with fail
  refine (three_any w).mono ?_
  rintro e w1 ⟨g0, rfl, hb1, hk1, hg0⟩
  have HK1 := Lib.hid hk1
  have hgl0 := hk1.lt
  clear hk1
  go_wp2_with fail
  obtain ⟨wo1, hwo1⟩ : ∃ wo1, wo1 = w1.alloc (Obj.cells #[Value.int IntKind.u64 3, Value.slice (some { block := g0, off := 0 }) 3 3] 25) := ⟨_, rfl⟩
  obtain ⟨w2, hw2⟩ : ∃ w2, w2 = ((w1.alloc (Obj.cells #[Value.int IntKind.u64 3, Value.slice (some { block := g0, off := 0 }) 3 3] 25)).alloc (Obj.cells #[Value.int IntKind.u64 3, Value.slice (some { block := g0, off := 0 }) 3 3] 25)).alloc (Obj.cells #[Value.int IntKind.i64 8] 3) := ⟨_, rfl⟩
  have hb2 : Below w1.heap.size w1 w2 := by rw [hw2]; exact (((Below.refl _ _).alloc (Nat.le_refl _) _).alloc (by simp) _).alloc (by simp; omega) _
  have hB2 : Blk w2 w1.heap.size 25 #[.int .u64 3, .slice (some ⟨g0, 0, none⟩) 3 3] := by rw [hw2]; exact ((Blk.new _ _ _).alloc _).alloc _
  have hF2 : Blk w2 (w1.heap.size + 1) 25 #[.int .u64 3, .slice (some ⟨g0, 0, none⟩) 3 3] := by rw [hw2]; exact (blk_newAt (by simp) _ _).alloc _
  have hN2 : Blk w2 (w1.heap.size + 1 + 1) 3 #[.int .i64 8] := by rw [hw2]; exact blk_newAt (by simp) _ _
  have hk2 := HK1.out.below hb2 hgl0
  rw [← hw2]
  clear hw2 hwo1 wo1
  have ht2 : Reads w2 w2.heap.size 2 (some ⟨g0, 0, none⟩) 3 (threeL.flatMap Pl.cs) := Reads.of_blk hk2 rfl rfl
  have HN2 : Hid (Reads w2 w2.heap.size 1 (some ⟨w1.heap.size + 1 + 1, 0, none⟩) 1 (([8] : List Int).map (.int .i64))) := Lib.hid (Reads.of_blk hN2 rfl rfl)
  have HT2 := Lib.hid ht2
  have HB2 := Lib.hid hB2
  have HF2 := Lib.hid hF2
  have HK2 := Lib.hid hk2
  have hlB := hB2.lt
  have hlF := hF2.lt
  have hlg := hk2.lt
  clear ht2 hN2 hB2 hF2 hk2
  refine (pick_val _ 2 0 rfl threeL [8] 3 2 _ _ 3 1 3 1 w2 rfl rfl HT2.out HN2.out (by decide) (by decide) awake_pick2).mono ?_
  rintro e w3 ⟨A3, c3, rfl, hc3, hb3, hr3⟩
  obtain ⟨b3, o3, rfl, hbl3, hcl3⟩ := Reads.lit hr3 (by decide)
  have p0 := hcl3 2 (.int .i64 9) rfl
  have p1 := hcl3 3 (.int .u64 1) rfl
  have P0 := Lib.hid p0
  have P1 := Lib.hid p1
  clear hcl3 hr3 p0 p1
  obtain ⟨a0, a1⟩ := blk_cell2 (HB2.out.below hb3 hlB)
  go_wp2_with fail
  clear a0 a1
  have HN3 : Hid (Reads (w3.alloc (.cells #[.int .i64 8] 3)) (w3.alloc (.cells #[.int .i64 8] 3)).heap.size 1 (some ⟨w3.heap.size, 0, none⟩) 1 (([8] : List Int).map (.int .i64))) := Lib.hid (Reads.of_blk (Blk.new _ _ _) rfl rfl)
  have hb23 : Below w2.heap.size w2 (w3.alloc (.cells #[.int .i64 8] 3)) := hb3.alloc hb3.size _
  have hT3 : Reads (w3.alloc (.cells #[.int .i64 8] 3)) (w3.alloc (.cells #[.int .i64 8] 3)).heap.size 2 (some ⟨g0, 0, none⟩) 3 (threeL.flatMap Pl.cs) := (HT2.out.below hb23).more hb23.size
  refine (pick_val _ 0 3 rfl threeL [8] 3 3 _ _ 3 1 3 1 _ rfl rfl hT3 HN3.out (by decide) (by decide) awake_pick3).mono ?_
  rintro e w4 ⟨A4, c4, rfl, hc4, hb4, hr4⟩
  have hb34 : Below w3.heap.size w3 w4 := ((Below.refl _ _).alloc (Nat.le_refl _) _).trans (hb4.mono (by simp))
  have hb24 := hb3.trans (hb34.mono hb3.size)
  have hbw4 := hb1.trans ((hb2.trans (hb24.mono hb2.size)).mono hb1.size)
  have q0 := (hb34.cell (p := ⟨b3, o3 + 2, none⟩) hbl3).trans P0.out
  have q1 := (hb34.cell (p := ⟨b3, o3 + 3, none⟩) hbl3).trans P1.out
  have hbl4 := Nat.lt_of_lt_of_le hbl3 hb34.size
  have Q0 := Lib.hid q0
  have Q1 := Lib.hid q1
  have HB4 := Lib.hid (HB2.out.below hb24 hlB)
  have HF4 := Lib.hid (HF2.out.below hb24 hlF)
  have HK4 := Lib.hid (HK2.out.below hb24 hlg)
  have hlB4 := HB4.out.lt
  have hlF4 := HF4.out.lt
  have hlg4 := HK4.out.lt
  have HBW := Lib.hid hbw4
  clear hr4 hT3 q0 q1 HN3 HN2 HT2 HB2 HF2 HK2 hlB hlF hlg hb3 hb34 hb24 hb4 hb23 hb2 hbw4 P0 P1 HK1
  go_wp2_with fail
  refine Rs.region 53 (awkSp w1.heap.size g0 b3 o3 c3) [24, 25, 26, 27, 28, 29, 30, 31, 32, 33, 34, 35, 36, 37, 38, 39, 40, 41, 42, 43, 44, 45, 46, 47, 48, 49, 50, 51, 52, 53, 54, 55, 56, 57, 58, 59, 60, 61, 62, 63, 64, 65, 66, 67, 68, 69, 70, 71, 72, 73, 74, 75, 76] rfl (by decide) (by kernel_rfl) (by kernel_rfl) (by kernel_rfl) ?_ ?_
  · intro vals W hb
    have hBW := HB4.out.below hb hlB4
    have hFW := HF4.out.below hb hlF4
    have hKW := HK4.out.below hb hlg4
    obtain ⟨a0, a1⟩ := blk_cell2 hBW
    have hlB5 := hBW.lt
    have HFC := Lib.hid (FC.of_blk hFW)
    have hgl2 := hFW.lt
    have HTR : Hid (Reads W W.heap.size 2 (some ⟨g0, 0, none⟩) 3 (threeL.flatMap Pl.cs)) := Lib.hid (Reads.of_blk hKW rfl rfl)
    have HT2 : Hid (Reads W W.heap.size 2 (some ⟨g0, 0, none⟩) 2 (([⟨7, 1⟩, ⟨8, 1⟩] : List Pl).flatMap Pl.cs)) := Lib.hid (pr_take HTR.out 2)
    have q0 := (hb.cell (p := ⟨b3, o3 + 2, none⟩) hbl4).trans Q0.out
    have q1 := (hb.cell (p := ⟨b3, o3 + 3, none⟩) hbl4).trans Q1.out
    have q1' : W.cell? ⟨b3, o3 + 2 + 1, none⟩ = some (.int .u64 1) := q1
    clear hBW hFW hKW
    simp only [List.take_succ_cons, List.take_zero]
    refine ⟨Rs.stepL [] (by kernel_rfl) ?_, Rs.stepL [24] (by kernel_rfl) ?_, Rs.stepL [] (by kernel_rfl) ?_, Rs.stepL [26] (by kernel_rfl) ?_, Rs.stepL [27] (by kernel_rfl) ?_, Rs.stepL [25, 28] (by kernel_rfl) ?_, Rs.stepL [29] (by kernel_rfl) ?_, Rs.stepL [30] (by kernel_rfl) ?_, Rs.stepL [31, 30] (by kernel_rfl) ?_, Rs.stepL [30] (by kernel_rfl) ?_, Rs.stepL [30] (by kernel_rfl) ?_, Rs.stepL [33, 34, 30] (by kernel_rfl) ?_, Rs.stepL [32, 35, 30] (by kernel_rfl) ?_, Rs.stepL [30, 36] (by kernel_rfl) ?_, Rs.stepL [37] (by kernel_rfl) ?_, Rs.stepL [38] (by kernel_rfl) ?_, Rs.stepL [39, 38] (by kernel_rfl) ?_, Rs.stepL [40, 38] (by kernel_rfl) ?_, Rs.stepL [41, 38] (by kernel_rfl) ?_, Rs.stepL [38, 42] (by kernel_rfl) ?_, Rs.stepL [43] (by kernel_rfl) ?_, Rs.stepL [44] (by kernel_rfl) ?_, Rs.stepL [44] (by kernel_rfl) ?_, Rs.stepL [46, 44] (by kernel_rfl) ?_, Rs.stepL [45, 47, 44] (by kernel_rfl) ?_, Rs.stepL [48, 44] (by kernel_rfl) ?_, Rs.stepL [44, 49] (by kernel_rfl) ?_, Rs.stepL [50] (by kernel_rfl) ?_, Rs.stepL [51] (by kernel_rfl) ?_, Rs.stepL [51] (by kernel_rfl) ?_, Rs.stepL [53, 51] (by kernel_rfl) ?_, Rs.stepL [52, 54, 51] (by kernel_rfl) ?_, Rs.stepL [51, 55] (by kernel_rfl) ?_, Rs.stepL [56] (by kernel_rfl) ?_, Rs.stepL [57] (by kernel_rfl) ?_, Rs.stepL [58, 57] (by kernel_rfl) ?_, Rs.stepL [57, 59] (by kernel_rfl) ?_, Rs.stepL [60] (by kernel_rfl) ?_, Rs.stepL [61] (by kernel_rfl) ?_, Rs.stepL [62, 61] (by kernel_rfl) ?_, Rs.stepL [63, 61] (by kernel_rfl) ?_, Rs.stepL [61, 64] (by kernel_rfl) ?_, Rs.stepL [65] (by kernel_rfl) ?_, Rs.stepL [66] (by kernel_rfl) ?_, Rs.stepL [67, 66] (by kernel_rfl) ?_, Rs.stepL [68, 66] (by kernel_rfl) ?_, Rs.stepL [66] (by kernel_rfl) ?_, Rs.stepL [69, 70, 66] (by kernel_rfl) ?_, Rs.stepL [66, 71] (by kernel_rfl) ?_, Rs.stepL [72] (by kernel_rfl) ?_, Rs.stepL [73] (by kernel_rfl) ?_, Rs.stepL [74, 73] (by kernel_rfl) ?_, Rs.stepL [73, 75] (by kernel_rfl) ?_, trivial⟩
    · rintro -
      refine ⟨trivial, fun K hK => ?_⟩
      simp only [Rs.frm, List.foldl_cons, List.foldl_nil, Act.put, List.setIfInBounds_toArray, List.set_cons_succ, List.set_cons_zero] at hK ⊢
      have HK := Lib.hid hK
      clear hK
      go_wp2_with fail
      exact HK.out _ _ (Below.refl _ _) rfl
    · rintro ⟨h24, -⟩
      have e24 : vals 24 = .slice (some ⟨w1.heap.size + 1, 0, none⟩) 1 1 := h24
      refine ⟨trivial, fun K hK => ?_⟩
      simp only [Rs.frm, List.foldl_cons, List.foldl_nil, Act.put, List.setIfInBounds_toArray, List.set_cons_succ, List.set_cons_zero, e24] at hK ⊢
      have HK := Lib.hid hK
      clear hK
      go_wp2_with fail
      refine (set_val ([⟨7, 1⟩, ⟨8, 1⟩] : List Pl) 2 rfl 3 3 2 threeL _ 3 3 _ _ _ W rfl HFC.out HTR.out hgl2 (by decide) (by decide) (by decide) awake_set3).mono ?_
      rintro e W' ⟨A', c', rfl, hc, hb', hr⟩
      have HR := Lib.hid hr
      clear hr
      go_wp2_with fail
      exact HK.out _ _ hb' ⟨A', c', rfl, hc, HR.out⟩
    · rintro -
      refine ⟨trivial, fun K hK => ?_⟩
      simp only [Rs.frm, List.foldl_cons, List.foldl_nil, Act.put, List.setIfInBounds_toArray, List.set_cons_succ, List.set_cons_zero] at hK ⊢
      have HK := Lib.hid hK
      clear hK
      go_wp2_with fail
      exact HK.out _ _ (Below.refl _ _) rfl
    · rintro ⟨h26, -⟩
      have e26 : vals 26 = .pointer (some ⟨w1.heap.size, 1, none⟩) := h26
      refine ⟨trivial, fun K hK => ?_⟩
      simp only [Rs.frm, List.foldl_cons, List.foldl_nil, Act.put, List.setIfInBounds_toArray, List.set_cons_succ, List.set_cons_zero, e26] at hK ⊢
      have HK := Lib.hid hK
      clear hK
      go_wp2_with fail
      exact HK.out _ _ (Below.refl _ _) rfl
    · rintro ⟨h27, -⟩
      have e27 : vals 27 = .slice (some ⟨g0, 0, none⟩) 3 3 := h27
      refine ⟨trivial, fun K hK => ?_⟩
      simp only [Rs.frm, List.foldl_cons, List.foldl_nil, Act.put, List.setIfInBounds_toArray, List.set_cons_succ, List.set_cons_zero, e27] at hK ⊢
      have HK := Lib.hid hK
      clear hK
      go_wp2_with fail
      exact HK.out _ _ (Below.refl _ _) rfl
    · rintro ⟨⟨A25, c25, h25, l25, r25⟩, h28, -⟩
      have e25 : vals 25 = .slice A25 2 c25 := h25
      have R25 := Lib.hid r25
      clear r25
      have e28 : vals 28 = .slice (some ⟨g0, 0, none⟩) 2 3 := h28
      refine ⟨trivial, fun K hK => ?_⟩
      simp only [Rs.frm, List.foldl_cons, List.foldl_nil, Act.put, List.setIfInBounds_toArray, List.set_cons_succ, List.set_cons_zero, e25, e28] at hK ⊢
      have HK := Lib.hid hK
      clear hK
      go_wp2_with fail
      refine (same_yes ([⟨7, 1⟩, ⟨8, 1⟩] : List Pl) 2 rfl _ _ _ _ W R25.out HT2.out (by decide)).mono ?_
      rintro e W' ⟨rfl, hb'⟩
      go_wp2_with fail
      exact HK.out _ _ hb' rfl
    · rintro ⟨h29, -⟩
      have e29 : vals 29 = .bool true := h29
      refine ⟨trivial, fun K hK => ?_⟩
      simp only [Rs.frm, List.foldl_cons, List.foldl_nil, Act.put, List.setIfInBounds_toArray, List.set_cons_succ, List.set_cons_zero, e29] at hK ⊢
      have HK := Lib.hid hK
      clear hK
      go_wp2_with fail
      exact HK.out _ _ (Below.refl _ _) rfl
    · rintro ⟨hg, -⟩
      refine ⟨hg, fun K hK => ?_⟩
      have eg : vals 30 = .bool true := hg
      simp only [Rs.frm, List.foldl_cons, List.foldl_nil, Act.put, List.setIfInBounds_toArray, List.set_cons_succ, List.set_cons_zero, eg] at hK ⊢
      have HK := Lib.hid hK
      clear hK
      go_wp2_with fail
      exact HK.out _ _ (Below.refl _ _) rfl
    · rintro ⟨h31, hg, -⟩
      have e31 : vals 31 = .slice (some ⟨w1.heap.size + 1, 0, none⟩) 1 1 := h31
      refine ⟨hg, fun K hK => ?_⟩
      have eg : vals 30 = .bool true := hg
      simp only [Rs.frm, List.foldl_cons, List.foldl_nil, Act.put, List.setIfInBounds_toArray, List.set_cons_succ, List.set_cons_zero, e31, eg] at hK ⊢
      have HK := Lib.hid hK
      clear hK
      go_wp2_with fail
      refine (set_val ([⟨9, 1⟩, ⟨7, 1⟩] : List Pl) 2 rfl 3 5 2 threeL _ 3 3 _ _ _ W rfl HFC.out HTR.out hgl2 (by decide) (by decide) (by decide) awake_set5).mono ?_
      rintro e W' ⟨A', c', rfl, hc, hb', hr⟩
      have HR := Lib.hid hr
      clear hr
      go_wp2_with fail
      exact HK.out _ _ hb' ⟨A', c', rfl, hc, HR.out⟩
    · rintro ⟨hg, -⟩
      refine ⟨hg, fun K hK => ?_⟩
      have eg : vals 30 = .bool true := hg
      simp only [Rs.frm, List.foldl_cons, List.foldl_nil, Act.put, List.setIfInBounds_toArray, List.set_cons_succ, List.set_cons_zero, eg] at hK ⊢
      have HK := Lib.hid hK
      clear hK
      go_wp2_with fail
      refine (place_any 9 W).mono ?_
      rintro e W' ⟨rfl, hb'⟩
      go_wp2_with fail
      exact HK.out _ _ hb' rfl
    · rintro ⟨hg, -⟩
      refine ⟨hg, fun K hK => ?_⟩
      have eg : vals 30 = .bool true := hg
      simp only [Rs.frm, List.foldl_cons, List.foldl_nil, Act.put, List.setIfInBounds_toArray, List.set_cons_succ, List.set_cons_zero, eg] at hK ⊢
      have HK := Lib.hid hK
      clear hK
      go_wp2_with fail
      refine (place_any 7 W).mono ?_
      rintro e W' ⟨rfl, hb'⟩
      go_wp2_with fail
      exact HK.out _ _ hb' rfl
    · rintro ⟨h33, h34, hg, -⟩
      have e33 : vals 33 = .agg #[.int .i64 9, .int .u64 1] := h33
      have e34 : vals 34 = .agg #[.int .i64 7, .int .u64 1] := h34
      refine ⟨hg, fun K hK => ?_⟩
      have eg : vals 30 = .bool true := hg
      simp only [Rs.frm, List.foldl_cons, List.foldl_nil, Act.put, List.setIfInBounds_toArray, List.set_cons_succ, List.set_cons_zero, e33, e34, eg] at hK ⊢
      have HK := Lib.hid hK
      clear hK
      go_wp2_with fail
      exact HK.out _ _ ((Below.refl _ _).alloc (Nat.le_refl _) _) ⟨_, _, rfl, Nat.le_refl _, Reads.of_blk (Blk.new W 37 #[.int .i64 9, .int .u64 1, .int .i64 7, .int .u64 1]) rfl rfl⟩
    · rintro ⟨⟨A32, c32, h32, l32, r32⟩, ⟨A35, c35, h35, l35, r35⟩, hg, -⟩
      have e32 : vals 32 = .slice A32 2 c32 := h32
      have R32 := Lib.hid r32
      clear r32
      have e35 : vals 35 = .slice A35 2 c35 := h35
      have R35 := Lib.hid r35
      clear r35
      refine ⟨hg, fun K hK => ?_⟩
      have eg : vals 30 = .bool true := hg
      simp only [Rs.frm, List.foldl_cons, List.foldl_nil, Act.put, List.setIfInBounds_toArray, List.set_cons_succ, List.set_cons_zero, e32, e35, eg] at hK ⊢
      have HK := Lib.hid hK
      clear hK
      go_wp2_with fail
      refine (same_yes ([⟨9, 1⟩, ⟨7, 1⟩] : List Pl) 2 rfl _ _ _ _ W R32.out R35.out (by decide)).mono ?_
      rintro e W' ⟨rfl, hb'⟩
      go_wp2_with fail
      exact HK.out _ _ hb' rfl
    · rintro ⟨h30, h36, -⟩
      have e30 : vals 30 = .bool true := h30
      have e36 : vals 36 = .bool true := h36
      refine ⟨trivial, fun K hK => ?_⟩
      simp only [Rs.frm, List.foldl_cons, List.foldl_nil, Act.put, List.setIfInBounds_toArray, List.set_cons_succ, List.set_cons_zero, e30, e36] at hK ⊢
      have HK := Lib.hid hK
      clear hK
      go_wp2_with fail
      exact HK.out _ _ (Below.refl _ _) rfl
    · rintro ⟨h37, -⟩
      have e37 : vals 37 = .bool true := h37
      refine ⟨trivial, fun K hK => ?_⟩
      simp only [Rs.frm, List.foldl_cons, List.foldl_nil, Act.put, List.setIfInBounds_toArray, List.set_cons_succ, List.set_cons_zero, e37] at hK ⊢
      have HK := Lib.hid hK
      clear hK
      go_wp2_with fail
      exact HK.out _ _ (Below.refl _ _) rfl
    · rintro ⟨hg, -⟩
      refine ⟨hg, fun K hK => ?_⟩
      have eg : vals 38 = .bool true := hg
      simp only [Rs.frm, List.foldl_cons, List.foldl_nil, Act.put, List.setIfInBounds_toArray, List.set_cons_succ, List.set_cons_zero, eg] at hK ⊢
      have HK := Lib.hid hK
      clear hK
      go_wp2_with fail
      exact HK.out _ _ (Below.refl _ _) rfl
    · rintro ⟨h39, hg, -⟩
      have e39 : vals 39 = .slice (some ⟨w1.heap.size + 1, 0, none⟩) 1 1 := h39
      refine ⟨hg, fun K hK => ?_⟩
      have eg : vals 38 = .bool true := hg
      simp only [Rs.frm, List.foldl_cons, List.foldl_nil, Act.put, List.setIfInBounds_toArray, List.set_cons_succ, List.set_cons_zero, e39, eg] at hK ⊢
      have HK := Lib.hid hK
      clear hK
      go_wp2_with fail
      refine (set_val ([] : List Pl) 0 rfl 3 2 2 threeL _ 3 3 _ _ _ W rfl HFC.out HTR.out hgl2 (by decide) (by decide) (by decide) awake_set2).mono ?_
      rintro e W' ⟨A', c', rfl, hc, hb', hr⟩
      have HR := Lib.hid hr
      clear hr
      go_wp2_with fail
      exact HK.out _ _ hb' ⟨A', c', rfl, hc, HR.out⟩
    · rintro ⟨⟨A40, c40, h40, l40, r40⟩, hg, -⟩
      have e40 : vals 40 = .slice A40 0 c40 := h40
      have R40 := Lib.hid r40
      clear r40
      refine ⟨hg, fun K hK => ?_⟩
      have eg : vals 38 = .bool true := hg
      simp only [Rs.frm, List.foldl_cons, List.foldl_nil, Act.put, List.setIfInBounds_toArray, List.set_cons_succ, List.set_cons_zero, e40, eg] at hK ⊢
      have HK := Lib.hid hK
      clear hK
      go_wp2_with fail
      exact HK.out _ _ (Below.refl _ _) rfl
    · rintro ⟨h41, hg, -⟩
      have e41 : vals 41 = .int .i64 0 := h41
      refine ⟨hg, fun K hK => ?_⟩
      have eg : vals 38 = .bool true := hg
      simp only [Rs.frm, List.foldl_cons, List.foldl_nil, Act.put, List.setIfInBounds_toArray, List.set_cons_succ, List.set_cons_zero, e41, eg] at hK ⊢
      have HK := Lib.hid hK
      clear hK
      go_wp2_with fail
      exact HK.out _ _ (Below.refl _ _) rfl
    · rintro ⟨h38, h42, -⟩
      have e38 : vals 38 = .bool true := h38
      have e42 : vals 42 = .bool true := h42
      refine ⟨trivial, fun K hK => ?_⟩
      simp only [Rs.frm, List.foldl_cons, List.foldl_nil, Act.put, List.setIfInBounds_toArray, List.set_cons_succ, List.set_cons_zero, e38, e42] at hK ⊢
      have HK := Lib.hid hK
      clear hK
      go_wp2_with fail
      exact HK.out _ _ (Below.refl _ _) rfl
    · rintro ⟨h43, -⟩
      have e43 : vals 43 = .bool true := h43
      refine ⟨trivial, fun K hK => ?_⟩
      simp only [Rs.frm, List.foldl_cons, List.foldl_nil, Act.put, List.setIfInBounds_toArray, List.set_cons_succ, List.set_cons_zero, e43] at hK ⊢
      have HK := Lib.hid hK
      clear hK
      go_wp2_with fail
      exact HK.out _ _ (Below.refl _ _) rfl
    · rintro ⟨hg, -⟩
      refine ⟨hg, fun K hK => ?_⟩
      have eg : vals 44 = .bool true := hg
      simp only [Rs.frm, List.foldl_cons, List.foldl_nil, Act.put, List.setIfInBounds_toArray, List.set_cons_succ, List.set_cons_zero, eg] at hK ⊢
      have HK := Lib.hid hK
      clear hK
      go_wp2_with fail
      exact HK.out _ _ (Below.refl _ _) rfl
    · rintro ⟨hg, -⟩
      refine ⟨hg, fun K hK => ?_⟩
      have eg : vals 44 = .bool true := hg
      simp only [Rs.frm, List.foldl_cons, List.foldl_nil, Act.put, List.setIfInBounds_toArray, List.set_cons_succ, List.set_cons_zero, eg] at hK ⊢
      have HK := Lib.hid hK
      clear hK
      go_wp2_with fail
      refine (place_any 7 W).mono ?_
      rintro e W' ⟨rfl, hb'⟩
      go_wp2_with fail
      exact HK.out _ _ hb' rfl
    · rintro ⟨h46, hg, -⟩
      have e46 : vals 46 = .agg #[.int .i64 7, .int .u64 1] := h46
      refine ⟨hg, fun K hK => ?_⟩
      have eg : vals 44 = .bool true := hg
      simp only [Rs.frm, List.foldl_cons, List.foldl_nil, Act.put, List.setIfInBounds_toArray, List.set_cons_succ, List.set_cons_zero, e46, eg] at hK ⊢
      have HK := Lib.hid hK
      clear hK
      go_wp2_with fail
      exact HK.out _ _ ((Below.refl _ _).alloc (Nat.le_refl _) _) ⟨_, _, rfl, Nat.le_refl _, Reads.of_blk (Blk.new W 37 #[.int .i64 7, .int .u64 1]) rfl rfl⟩
    · rintro ⟨h45, ⟨A47, c47, h47, l47, r47⟩, hg, -⟩
      have e45 : vals 45 = .agg #[.int .u64 3, .slice (some ⟨g0, 0, none⟩) 3 3] := h45
      have e47 : vals 47 = .slice A47 1 c47 := h47
      have R47 := Lib.hid r47
      clear r47
      refine ⟨hg, fun K hK => ?_⟩
      have eg : vals 44 = .bool true := hg
      simp only [Rs.frm, List.foldl_cons, List.foldl_nil, Act.put, List.setIfInBounds_toArray, List.set_cons_succ, List.set_cons_zero, e45, e47, eg] at hK ⊢
      have HK := Lib.hid hK
      clear hK
      go_wp2_with fail
      refine (covered_val false 3 1 3 2 2 threeL ([⟨7, 1⟩] : List Pl) _ _ 3 _ W rfl rfl HTR.out R47.out (by decide) (by decide) (by decide) (by decide) (by decide) (by decide) awake_cov7).mono ?_
      rintro e W' ⟨rfl, hb'⟩
      go_wp2_with fail
      exact HK.out _ _ hb' rfl
    · rintro ⟨h48, hg, -⟩
      have e48 : vals 48 = .bool false := h48
      refine ⟨hg, fun K hK => ?_⟩
      have eg : vals 44 = .bool true := hg
      simp only [Rs.frm, List.foldl_cons, List.foldl_nil, Act.put, List.setIfInBounds_toArray, List.set_cons_succ, List.set_cons_zero, e48, eg] at hK ⊢
      have HK := Lib.hid hK
      clear hK
      go_wp2_with fail
      exact HK.out _ _ (Below.refl _ _) rfl
    · rintro ⟨h44, h49, -⟩
      have e44 : vals 44 = .bool true := h44
      have e49 : vals 49 = .bool true := h49
      refine ⟨trivial, fun K hK => ?_⟩
      simp only [Rs.frm, List.foldl_cons, List.foldl_nil, Act.put, List.setIfInBounds_toArray, List.set_cons_succ, List.set_cons_zero, e44, e49] at hK ⊢
      have HK := Lib.hid hK
      clear hK
      go_wp2_with fail
      exact HK.out _ _ (Below.refl _ _) rfl
    · rintro ⟨h50, -⟩
      have e50 : vals 50 = .bool true := h50
      refine ⟨trivial, fun K hK => ?_⟩
      simp only [Rs.frm, List.foldl_cons, List.foldl_nil, Act.put, List.setIfInBounds_toArray, List.set_cons_succ, List.set_cons_zero, e50] at hK ⊢
      have HK := Lib.hid hK
      clear hK
      go_wp2_with fail
      exact HK.out _ _ (Below.refl _ _) rfl
    · rintro ⟨hg, -⟩
      refine ⟨hg, fun K hK => ?_⟩
      have eg : vals 51 = .bool true := hg
      simp only [Rs.frm, List.foldl_cons, List.foldl_nil, Act.put, List.setIfInBounds_toArray, List.set_cons_succ, List.set_cons_zero, eg] at hK ⊢
      have HK := Lib.hid hK
      clear hK
      go_wp2_with fail
      exact HK.out _ _ (Below.refl _ _) rfl
    · rintro ⟨hg, -⟩
      refine ⟨hg, fun K hK => ?_⟩
      have eg : vals 51 = .bool true := hg
      simp only [Rs.frm, List.foldl_cons, List.foldl_nil, Act.put, List.setIfInBounds_toArray, List.set_cons_succ, List.set_cons_zero, eg] at hK ⊢
      have HK := Lib.hid hK
      clear hK
      go_wp2_with fail
      exact HK.out _ _ (Below.refl _ _) rfl
    · rintro ⟨h53, hg, -⟩
      have e53 : vals 53 = .pointer (some ⟨w1.heap.size, 1, none⟩) := h53
      refine ⟨hg, fun K hK => ?_⟩
      have eg : vals 51 = .bool true := hg
      simp only [Rs.frm, List.foldl_cons, List.foldl_nil, Act.put, List.setIfInBounds_toArray, List.set_cons_succ, List.set_cons_zero, e53, eg] at hK ⊢
      have HK := Lib.hid hK
      clear hK
      go_wp2_with fail
      exact HK.out _ _ (Below.refl _ _) rfl
    · rintro ⟨h52, h54, hg, -⟩
      have e52 : vals 52 = .agg #[.int .u64 3, .slice (some ⟨g0, 0, none⟩) 3 3] := h52
      have e54 : vals 54 = .slice (some ⟨g0, 0, none⟩) 3 3 := h54
      refine ⟨hg, fun K hK => ?_⟩
      have eg : vals 51 = .bool true := hg
      simp only [Rs.frm, List.foldl_cons, List.foldl_nil, Act.put, List.setIfInBounds_toArray, List.set_cons_succ, List.set_cons_zero, e52, e54, eg] at hK ⊢
      have HK := Lib.hid hK
      clear hK
      go_wp2_with fail
      refine (covered_val true 3 3 3 2 2 threeL threeL _ _ 3 3 W rfl rfl HTR.out HTR.out (by decide) (by decide) (by decide) (by decide) (by decide) (by decide) awake_cov).mono ?_
      rintro e W' ⟨rfl, hb'⟩
      go_wp2_with fail
      exact HK.out _ _ hb' rfl
    · rintro ⟨h51, h55, -⟩
      have e51 : vals 51 = .bool true := h51
      have e55 : vals 55 = .bool true := h55
      refine ⟨trivial, fun K hK => ?_⟩
      simp only [Rs.frm, List.foldl_cons, List.foldl_nil, Act.put, List.setIfInBounds_toArray, List.set_cons_succ, List.set_cons_zero, e51, e55] at hK ⊢
      have HK := Lib.hid hK
      clear hK
      go_wp2_with fail
      exact HK.out _ _ (Below.refl _ _) rfl
    · rintro ⟨h56, -⟩
      have e56 : vals 56 = .bool true := h56
      refine ⟨trivial, fun K hK => ?_⟩
      simp only [Rs.frm, List.foldl_cons, List.foldl_nil, Act.put, List.setIfInBounds_toArray, List.set_cons_succ, List.set_cons_zero, e56] at hK ⊢
      have HK := Lib.hid hK
      clear hK
      go_wp2_with fail
      exact HK.out _ _ (Below.refl _ _) rfl
    · rintro ⟨hg, -⟩
      refine ⟨hg, fun K hK => ?_⟩
      have eg : vals 57 = .bool true := hg
      simp only [Rs.frm, List.foldl_cons, List.foldl_nil, Act.put, List.setIfInBounds_toArray, List.set_cons_succ, List.set_cons_zero, eg] at hK ⊢
      have HK := Lib.hid hK
      clear hK
      go_wp2_with fail
      exact HK.out _ _ (Below.refl _ _) rfl
    · rintro ⟨h58, hg, -⟩
      have e58 : vals 58 = .int .i64 0 := h58
      refine ⟨hg, fun K hK => ?_⟩
      have eg : vals 57 = .bool true := hg
      simp only [Rs.frm, List.foldl_cons, List.foldl_nil, Act.put, List.setIfInBounds_toArray, List.set_cons_succ, List.set_cons_zero, e58, eg] at hK ⊢
      have HK := Lib.hid hK
      clear hK
      go_wp2_with fail
      exact HK.out _ _ (Below.refl _ _) rfl
    · rintro ⟨h57, h59, -⟩
      have e57 : vals 57 = .bool true := h57
      have e59 : vals 59 = .bool true := h59
      refine ⟨trivial, fun K hK => ?_⟩
      simp only [Rs.frm, List.foldl_cons, List.foldl_nil, Act.put, List.setIfInBounds_toArray, List.set_cons_succ, List.set_cons_zero, e57, e59] at hK ⊢
      have HK := Lib.hid hK
      clear hK
      go_wp2_with fail
      exact HK.out _ _ (Below.refl _ _) rfl
    · rintro ⟨h60, -⟩
      have e60 : vals 60 = .bool true := h60
      refine ⟨trivial, fun K hK => ?_⟩
      simp only [Rs.frm, List.foldl_cons, List.foldl_nil, Act.put, List.setIfInBounds_toArray, List.set_cons_succ, List.set_cons_zero, e60] at hK ⊢
      have HK := Lib.hid hK
      clear hK
      go_wp2_with fail
      exact HK.out _ _ (Below.refl _ _) rfl
    · rintro ⟨hg, -⟩
      refine ⟨hg, fun K hK => ?_⟩
      have eg : vals 61 = .bool true := hg
      simp only [Rs.frm, List.foldl_cons, List.foldl_nil, Act.put, List.setIfInBounds_toArray, List.set_cons_succ, List.set_cons_zero, eg] at hK ⊢
      have HK := Lib.hid hK
      clear hK
      go_wp2_with fail
      exact HK.out _ _ (Below.refl _ _) rfl
    · rintro ⟨h62, hg, -⟩
      have e62 : vals 62 = .slice (some ⟨b3, o3, none⟩) 2 c3 := h62
      refine ⟨hg, fun K hK => ?_⟩
      have eg : vals 61 = .bool true := hg
      simp only [Rs.frm, List.foldl_cons, List.foldl_nil, Act.put, List.setIfInBounds_toArray, List.set_cons_succ, List.set_cons_zero, e62, eg] at hK ⊢
      have HK := Lib.hid hK
      clear hK
      go_wp2_with fail
      exact HK.out _ _ (Below.refl _ _) rfl
    · rintro ⟨h63, hg, -⟩
      have e63 : vals 63 = .int .i64 2 := h63
      refine ⟨hg, fun K hK => ?_⟩
      have eg : vals 61 = .bool true := hg
      simp only [Rs.frm, List.foldl_cons, List.foldl_nil, Act.put, List.setIfInBounds_toArray, List.set_cons_succ, List.set_cons_zero, e63, eg] at hK ⊢
      have HK := Lib.hid hK
      clear hK
      go_wp2_with fail
      exact HK.out _ _ (Below.refl _ _) rfl
    · rintro ⟨h61, h64, -⟩
      have e61 : vals 61 = .bool true := h61
      have e64 : vals 64 = .bool true := h64
      refine ⟨trivial, fun K hK => ?_⟩
      simp only [Rs.frm, List.foldl_cons, List.foldl_nil, Act.put, List.setIfInBounds_toArray, List.set_cons_succ, List.set_cons_zero, e61, e64] at hK ⊢
      have HK := Lib.hid hK
      clear hK
      go_wp2_with fail
      exact HK.out _ _ (Below.refl _ _) rfl
    · rintro ⟨h65, -⟩
      have e65 : vals 65 = .bool true := h65
      refine ⟨trivial, fun K hK => ?_⟩
      simp only [Rs.frm, List.foldl_cons, List.foldl_nil, Act.put, List.setIfInBounds_toArray, List.set_cons_succ, List.set_cons_zero, e65] at hK ⊢
      have HK := Lib.hid hK
      clear hK
      go_wp2_with fail
      exact HK.out _ _ (Below.refl _ _) rfl
    · rintro ⟨hg, -⟩
      refine ⟨hg, fun K hK => ?_⟩
      have eg : vals 66 = .bool true := hg
      simp only [Rs.frm, List.foldl_cons, List.foldl_nil, Act.put, List.setIfInBounds_toArray, List.set_cons_succ, List.set_cons_zero, eg] at hK ⊢
      have HK := Lib.hid hK
      clear hK
      go_wp2_with fail
      exact HK.out _ _ (Below.refl _ _) rfl
    · rintro ⟨h67, hg, -⟩
      have e67 : vals 67 = .slice (some ⟨b3, o3, none⟩) 2 c3 := h67
      refine ⟨hg, fun K hK => ?_⟩
      have eg : vals 66 = .bool true := hg
      simp only [Rs.frm, List.foldl_cons, List.foldl_nil, Act.put, List.setIfInBounds_toArray, List.set_cons_succ, List.set_cons_zero, e67, eg] at hK ⊢
      have HK := Lib.hid hK
      clear hK
      go_wp2_with fail
      exact HK.out _ _ (Below.refl _ _) rfl
    · rintro ⟨h68, hg, -⟩
      have e68 : vals 68 = .pointer (some ⟨b3, o3 + 2, none⟩) := h68
      refine ⟨hg, fun K hK => ?_⟩
      have eg : vals 66 = .bool true := hg
      simp only [Rs.frm, List.foldl_cons, List.foldl_nil, Act.put, List.setIfInBounds_toArray, List.set_cons_succ, List.set_cons_zero, e68, eg] at hK ⊢
      have HK := Lib.hid hK
      clear hK
      go_wp2_with fail
      exact HK.out _ _ (Below.refl _ _) rfl
    · rintro ⟨hg, -⟩
      refine ⟨hg, fun K hK => ?_⟩
      have eg : vals 66 = .bool true := hg
      simp only [Rs.frm, List.foldl_cons, List.foldl_nil, Act.put, List.setIfInBounds_toArray, List.set_cons_succ, List.set_cons_zero, eg] at hK ⊢
      have HK := Lib.hid hK
      clear hK
      go_wp2_with fail
      refine (place_any 9 W).mono ?_
      rintro e W' ⟨rfl, hb'⟩
      go_wp2_with fail
      exact HK.out _ _ hb' rfl
    · rintro ⟨h69, h70, hg, -⟩
      have e69 : vals 69 = .agg #[.int .i64 9, .int .u64 1] := h69
      have e70 : vals 70 = .agg #[.int .i64 9, .int .u64 1] := h70
      refine ⟨hg, fun K hK => ?_⟩
      have eg : vals 66 = .bool true := hg
      simp only [Rs.frm, List.foldl_cons, List.foldl_nil, Act.put, List.setIfInBounds_toArray, List.set_cons_succ, List.set_cons_zero, e69, e70, eg] at hK ⊢
      have HK := Lib.hid hK
      clear hK
      go_wp2_with fail
      exact HK.out _ _ (Below.refl _ _) rfl
    · rintro ⟨h66, h71, -⟩
      have e66 : vals 66 = .bool true := h66
      have e71 : vals 71 = .bool true := h71
      refine ⟨trivial, fun K hK => ?_⟩
      simp only [Rs.frm, List.foldl_cons, List.foldl_nil, Act.put, List.setIfInBounds_toArray, List.set_cons_succ, List.set_cons_zero, e66, e71] at hK ⊢
      have HK := Lib.hid hK
      clear hK
      go_wp2_with fail
      exact HK.out _ _ (Below.refl _ _) rfl
    · rintro ⟨h72, -⟩
      have e72 : vals 72 = .bool true := h72
      refine ⟨trivial, fun K hK => ?_⟩
      simp only [Rs.frm, List.foldl_cons, List.foldl_nil, Act.put, List.setIfInBounds_toArray, List.set_cons_succ, List.set_cons_zero, e72] at hK ⊢
      have HK := Lib.hid hK
      clear hK
      go_wp2_with fail
      exact HK.out _ _ (Below.refl _ _) rfl
    · rintro ⟨hg, -⟩
      refine ⟨hg, fun K hK => ?_⟩
      have eg : vals 73 = .bool true := hg
      simp only [Rs.frm, List.foldl_cons, List.foldl_nil, Act.put, List.setIfInBounds_toArray, List.set_cons_succ, List.set_cons_zero, eg] at hK ⊢
      have HK := Lib.hid hK
      clear hK
      go_wp2_with fail
      exact HK.out _ _ (Below.refl _ _) rfl
    · rintro ⟨h74, hg, -⟩
      have e74 : vals 74 = .int .i64 3 := h74
      refine ⟨hg, fun K hK => ?_⟩
      have eg : vals 73 = .bool true := hg
      simp only [Rs.frm, List.foldl_cons, List.foldl_nil, Act.put, List.setIfInBounds_toArray, List.set_cons_succ, List.set_cons_zero, e74, eg] at hK ⊢
      have HK := Lib.hid hK
      clear hK
      go_wp2_with fail
      exact HK.out _ _ (Below.refl _ _) rfl
    · rintro ⟨h73, h75, -⟩
      have e73 : vals 73 = .bool true := h73
      have e75 : vals 75 = .bool true := h75
      refine ⟨trivial, fun K hK => ?_⟩
      simp only [Rs.frm, List.foldl_cons, List.foldl_nil, Act.put, List.setIfInBounds_toArray, List.set_cons_succ, List.set_cons_zero, e73, e75] at hK ⊢
      have HK := Lib.hid hK
      clear hK
      go_wp2_with fail
      exact HK.out _ _ (Below.refl _ _) rfl
  · intro vals W hb hL
    have e76 : vals 76 = .bool true := looks_get hL (t := 76) (by kernel_rfl)
    have hBe := HBW.out.trans (hb.mono HBW.out.size)
    clear hL
    simp only [List.drop_succ_cons, List.drop_zero, Rs.frm, List.foldl_cons, List.foldl_nil, Act.put, List.setIfInBounds_toArray, List.set_cons_succ, List.set_cons_zero, e76]
    go_wp2_with fail
    go_ret
    exact ⟨rfl, hBe⟩
end Go.Proofs.Ytcmidhecmhbeoaa
