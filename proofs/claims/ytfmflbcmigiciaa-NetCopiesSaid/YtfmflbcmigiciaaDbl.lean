/- Chapter 05: Double where there is one. -/
import Derived.Test.YtfmflbcmigiciaaActs
namespace Go.Proofs.Ytfmflbcmigiciaa
open Go.RowKit

def dblSp (G : Nat) (f t : Int) (A : Option Addr) (n c : Nat) : List (Tmp × Rg.Spec) :=
  [(13, .is (.int .i64 0)), (14, .is (.bool true)), (15, .is (.bool true)), (16, .is (.pointer (some ⟨G, 0, none⟩))), (17, .is (.pointer (some ⟨G, 0, none⟩))), (18, .is (.pointer (some ⟨G, 0, none⟩))), (19, .is (.agg #[.int .i64 f, .int .i64 t, .slice A n c]))]

set_option maxHeartbeats 400000 in
theorem dbl_raw (G : Nat) (i : Int) (m : Msg) (w : World) (Q : Int → World → World → Prop)
    (hat : Calls Try.prog 16 #[.pointer (some ⟨G, 0, none⟩), .int .i64 i] w fun e w' => ∃ A' c', e = .returned (.tuple #[msgV m A' c', .int .i64 0]) ∧ Below w.heap.size w w' ∧ Own w' w.heap.size m A' c')
    (hput : ∀ A' c' W, Below w.heap.size w W → Own W w.heap.size m A' c' → Calls Try.prog 28 #[.pointer (some ⟨G, 0, none⟩), msgV m A' c'] W fun e w' => ∃ b, e = .returned (.bool b) ∧ Q (if b then 0 else 3) W w')
    (hG : G < w.heap.size) :
    Calls Try.prog 17 #[.pointer (some ⟨G, 0, none⟩), .int .i64 i] w fun e w' => ∃ r W, e = .returned (.int .i64 r) ∧ Below w.heap.size w W ∧ Q r W w' := by
  have C := Lib.hid hat
  have HP := Lib.hid hput
  clear hat hput
  go_enter Try.func17, Try.ntmps17
  go_wp2_with fail
  refine C.out.mono ?_
  rintro e w1 ⟨A', c', rfl, hb1, ho⟩
  have HO := Lib.hid ho
  unfold msgV
  clear ho C
  go_wp2_with fail
  obtain ⟨W0, hW0⟩ : ∃ W0, W0 = w1.alloc (.cells #[.int .i64 m.f, .int .i64 m.t, .slice A' m.bs.length c'] 33) := ⟨_, rfl⟩
  have hb2 : Below w1.heap.size w1 W0 := by rw [hW0]; exact (Below.refl _ _).alloc (Nat.le_refl _) _
  have hM : Blk W0 w1.heap.size 33 #[.int .i64 m.f, .int .i64 m.t, .slice A' m.bs.length c'] := by rw [hW0]; exact Blk.new _ _ _
  have HM := Lib.hid hM
  have HO0 := Lib.hid (HO.out.below hb2)
  have hb02 := hb1.trans (hb2.mono hb1.size)
  have hs1 := hb1.size
  rw [← hW0]
  clear hW0 hM hb2 HO
  refine Rs.region 7 (dblSp G m.f m.t A' m.bs.length c') [13, 14, 15, 16, 17, 18, 19] rfl (by decide) (by kernel_rfl) (by kernel_rfl) (by kernel_rfl) ?_ ?_
  · intro vals V hbV
    simp only [List.take_succ_cons, List.take_zero]
    have hM := HM.out.below hbV HM.out.lt
    obtain ⟨m0', m1', m2'⟩ := blk_cell3 hM
    have ml := hM.lt
    have hgl : G < V.heap.size := by have := hbV.size; have := hb02.size; omega
    clear hM
    refine ⟨Rs.stepL [] (by kernel_rfl) ?_, Rs.stepL [13] (by kernel_rfl) ?_, Rs.stepL [14] (by kernel_rfl) ?_, Rs.stepL [15] (by kernel_rfl) ?_, Rs.stepL [16, 15] (by kernel_rfl) ?_, Rs.stepL [17, 15] (by kernel_rfl) ?_, Rs.stepL [15] (by kernel_rfl) ?_, trivial⟩
    · rintro -
      refine ⟨trivial, fun K hK => ?_⟩
      simp only [Rs.frm, List.foldl_cons, List.foldl_nil, Act.put, List.setIfInBounds_toArray, List.set_cons_succ, List.set_cons_zero] at hK ⊢
      have HK := Lib.hid hK
      clear hK
      go_wp2_with fail
      exact HK.out _ _ (Below.refl _ _) rfl
    · rintro ⟨h13, -⟩
      have e13 : vals 13 = .int .i64 0 := h13
      refine ⟨trivial, fun K hK => ?_⟩
      simp only [Rs.frm, List.foldl_cons, List.foldl_nil, Act.put, List.setIfInBounds_toArray, List.set_cons_succ, List.set_cons_zero, e13] at hK ⊢
      have HK := Lib.hid hK
      clear hK
      go_wp2_with fail
      exact HK.out _ _ (Below.refl _ _) rfl
    · rintro ⟨h14, -⟩
      have e14 : vals 14 = .bool true := h14
      refine ⟨trivial, fun K hK => ?_⟩
      simp only [Rs.frm, List.foldl_cons, List.foldl_nil, Act.put, List.setIfInBounds_toArray, List.set_cons_succ, List.set_cons_zero, e14] at hK ⊢
      have HK := Lib.hid hK
      clear hK
      go_wp2_with fail
      exact HK.out _ _ (Below.refl _ _) rfl
    · rintro ⟨hg, -⟩
      have eg : vals 15 = .bool true := hg
      refine ⟨hg, fun K hK => ?_⟩
      simp only [Rs.frm, List.foldl_cons, List.foldl_nil, Act.put, List.setIfInBounds_toArray, List.set_cons_succ, List.set_cons_zero, eg] at hK ⊢
      have HK := Lib.hid hK
      clear hK
      go_wp2_with fail
      exact HK.out _ _ (Below.refl _ _) rfl
    · rintro ⟨h16, hg, -⟩
      have e16 : vals 16 = .pointer (some ⟨G, 0, none⟩) := h16
      have eg : vals 15 = .bool true := hg
      refine ⟨hg, fun K hK => ?_⟩
      simp only [Rs.frm, List.foldl_cons, List.foldl_nil, Act.put, List.setIfInBounds_toArray, List.set_cons_succ, List.set_cons_zero, e16, eg] at hK ⊢
      have HK := Lib.hid hK
      clear hK
      go_wp2_with fail
      exact HK.out _ _ (Below.refl _ _) rfl
    · rintro ⟨h17, hg, -⟩
      have e17 : vals 17 = .pointer (some ⟨G, 0, none⟩) := h17
      have eg : vals 15 = .bool true := hg
      refine ⟨hg, fun K hK => ?_⟩
      simp only [Rs.frm, List.foldl_cons, List.foldl_nil, Act.put, List.setIfInBounds_toArray, List.set_cons_succ, List.set_cons_zero, e17, eg] at hK ⊢
      have HK := Lib.hid hK
      clear hK
      go_wp2_with fail
      exact HK.out _ _ (Below.refl _ _) rfl
    · rintro ⟨hg, -⟩
      have eg : vals 15 = .bool true := hg
      refine ⟨hg, fun K hK => ?_⟩
      simp only [Rs.frm, List.foldl_cons, List.foldl_nil, Act.put, List.setIfInBounds_toArray, List.set_cons_succ, List.set_cons_zero, eg] at hK ⊢
      have HK := Lib.hid hK
      clear hK
      go_wp2_with fail
      exact HK.out _ _ (Below.refl _ _) rfl
  · intro vals V hbV hL
    simp only [List.drop_succ_cons, List.drop_zero]
    have e15 : vals 15 = .bool true := hL.2.2.1
    have e18 : vals 18 = .pointer (some ⟨G, 0, none⟩) := hL.2.2.2.2.2.1
    have e19 : vals 19 = .agg #[.int .i64 m.f, .int .i64 m.t, .slice A' m.bs.length c'] := hL.2.2.2.2.2.2.1
    clear hL
    simp only [Rs.frm, List.foldl_cons, List.foldl_nil, Act.put, List.setIfInBounds_toArray, List.set_cons_succ, List.set_cons_zero, e15, e18, e19]
    have hb0V := hb02.trans (hbV.mono hb02.size)
    have CP := Lib.hid (HP.out A' c' V hb0V (HO0.out.below hbV))
    unfold msgV at CP
    clear e15 e18 e19
    go_wp2_with fail
    refine CP.out.mono ?_
    rintro e w9 ⟨b, rfl, hq⟩
    have HQ := Lib.hid hq
    clear hq CP
    cases b with
    | true =>
      go_wp2_with fail
      go_ret
      exact ⟨_, V, rfl, hb0V, HQ.out⟩
    | false =>
      go_wp2_with fail
      go_ret
      exact ⟨_, V, rfl, hb0V, HQ.out⟩

theorem c_double {w : World} {R : Nat → Prop} {G : Nat} {A : Option Addr} {N : Int} {cut : Nat → Nat → Bool} {bag : List Msg} (h : NetAt w R G A N cut bag) (i : Int) : Calls Try.prog 17 #[gp G, .int .i64 i] w fun e w' => e = .returned (.int .i64 (dblP bag i).1) ∧ Net1 w w' R G A N cut (dblP bag i).2 := by
  have hat := c_at h i
  obtain ⟨c, rs, h1, h2, h3⟩ := h.ex
  unfold dblP
  unfold atR at hat
  cases ha : atP bag i with
  | none =>
    refine (double_none _ i w (noAt_net h1 (atP_has ha))).mono ?_
    rintro e w' ⟨rfl, hb⟩
    exact ⟨rfl, Net1.same h hb⟩
  | some m =>
    rw [ha] at hat
    have hle : m.bs.length ≤ 1000000000 := by
      obtain ⟨k, _, hk, hkm⟩ := atP_some ha
      obtain ⟨_, _, _, _, hle⟩ := h3.get hkm
      exact hle
    refine (dbl_raw G i m w (fun r W w' => r = (if 64 ≤ bag.length then 3 else 0) ∧ Net1 w w' R G A N cut (if 64 ≤ bag.length then bag else bag ++ [m])) hat ?_ h.G_lt).mono ?_
    · intro A' c' W hb ho
      by_cases h7 : 64 ≤ bag.length
      · refine (put_no G _ c A N cut ⟨m.f, m.t, A', m.bs.length, c'⟩ W (h1.below hb h1.lt) h7).mono ?_
        rintro e w' ⟨rfl, hb2⟩
        refine ⟨false, rfl, ?_⟩
        rw [if_pos h7, if_pos h7]
        exact ⟨rfl, Net1.same h (hb.trans (hb2.mono hb.size))⟩
      · refine (put_yes G _ c 0 A N cut rs ⟨m.f, m.t, A', m.bs.length, c'⟩ W (h1.below hb h1.lt) (by omega) (Nat.zero_le _) (own_below0 h2 hb)).mono ?_
        rintro e w' ⟨rfl, hf, A2, c2, hb2, ho2, hw2⟩
        refine ⟨true, rfl, ?_⟩
        rw [if_neg h7, if_neg h7]
        refine ⟨rfl, put_net h h3 (by omega) m hle ((Far.of_below hb).trans hf fun _ _ h => h) hb2 ho2 (fun k hk => ?_) (ho.far hf fun k hk => h.wr_lt hk).row⟩
        rcases hw2 k hk with h8 | h8
        · exact .inl h8
        · exact .inr (Nat.le_trans hb.size h8)
    · rintro e w' ⟨r, W, rfl, hb, rfl, hn⟩
      by_cases h7 : 64 ≤ bag.length
      · simp only [if_pos h7] at hn ⊢
        exact ⟨trivial, hn⟩
      · simp only [if_neg h7] at hn ⊢
        exact ⟨trivial, hn⟩
end Go.Proofs.Ytfmflbcmigiciaa
