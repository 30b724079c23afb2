/- Chapter 05: Send. -/
import Derived.Test.YtfmflbcmigiciaaWalkD
namespace Go.Proofs.Ytfmflbcmigiciaa
open Go.RowKit

theorem send_arg (p : Value) (N a b : Int) (A : Option Addr) (k c : Nat) (w : World) (h : NN w p N) (h2 : twoB N a b = false) : Calls Try.prog 10 #[p, .int .i64 a, .int .i64 b, .slice A k c] w fun e w' => e = .returned (.int .i64 1) ∧ w = w' := by
  have C := Lib.hid (two_any p N a b w h)
  rw [h2] at C
  clear h h2
  go_enter Try.func10, Try.ntmps10
  go_wp2_with fail
  refine C.out.mono ?_
  rintro e w1 ⟨rfl, rfl⟩
  go_wp2_with fail
  go_ret
  exact ⟨rfl, rfl⟩
theorem send_long (p : Value) (N a b : Int) (A : Option Addr) (k c : Nat) (w : World) (h : NN w p N) (h2 : twoB N a b = true) (hk : 16384 < k) : Calls Try.prog 10 #[p, .int .i64 a, .int .i64 b, .slice A k c] w fun e w' => e = .returned (.int .i64 7) ∧ w = w' := by
  have C := Lib.hid (two_any p N a b w h)
  rw [h2] at C
  have d : decide (16384 < (k : Int)) = true := decide_eq_true (by omega)
  clear h h2
  go_enter Try.func10, Try.ntmps10
  go_wp2_with fail
  refine C.out.mono ?_
  rintro e w1 ⟨rfl, rfl⟩
  go_wp2_with fail
  go_ret
  exact ⟨rfl, rfl⟩
theorem send_down (G : Nat) (sl : Value) (most N a b : Int) (cut : Nat → Nat → Bool) (A : Option Addr) (k c : Nat) (w : World) (h : Blk w G 56 (netA sl most N cut)) (hN : N ≤ 15) (h2 : twoB N a b = true) (hk : k ≤ 16384) (ho : openB N cut a b = false) : Calls Try.prog 10 #[.pointer (some ⟨G, 0, none⟩), .int .i64 a, .int .i64 b, .slice A k c] w fun e w' => e = .returned (.int .i64 6) ∧ w = w' := by
  have C := Lib.hid (two_any _ N a b w (nn_blk h))
  have D := Lib.hid (open_any G sl most N a b cut w h hN)
  rw [h2] at C
  rw [ho] at D
  have d : decide (16384 < (k : Int)) = false := decide_eq_false (by omega)
  clear h h2 ho
  go_enter Try.func10, Try.ntmps10
  go_wp2_with fail
  refine C.out.mono ?_
  rintro e w1 ⟨rfl, rfl⟩
  go_wp2_with fail
  refine D.out.mono ?_
  rintro e w1 ⟨rfl, rfl⟩
  go_wp2_with fail
  go_ret
  exact ⟨rfl, rfl⟩

/-- Bytes of the call's own. -/
def ownBytes (mk : Value → Value) (base : Nat) (l : List Int) : Rg.Spec :=
  ⟨fun v w => ∃ A' c', v = mk (.slice A' l.length c') ∧ l.length ≤ c' ∧ c' ≤ maxLen ∧ w.ownsRow base 5 1 (.slice A' l.length c') l.length (l.map (.int .u8)),
   fun _ _ _ hb ⟨A', c', h1, h2, h3, h4⟩ => ⟨A', c', h1, h2, h3, own_below0 h4 hb⟩⟩
def sendSp (H G : Nat) (a b : Int) (A : Option Addr) (c : Nat) (bs : List Int) : List (Tmp × Rg.Spec) :=
  [(26, .is (.pointer (some ⟨G, 0, none⟩))), (27, .is (.pointer (some ⟨G, 0, none⟩))), (28, .is (.pointer (some ⟨G, 0, none⟩))), (29, .is (.int .i64 a)), (30, .is (.int .i64 b)), (31, .is (.slice A bs.length c)), (32, ownBytes id H bs), (33, ownBytes (fun v => .agg #[.int .i64 a, .int .i64 b, v]) H bs)]

set_option maxHeartbeats 2000000 in
theorem send_full (G n c base : Nat) (A : Option Addr) (N a b : Int) (cut : Nat → Nat → Bool) (rs : List Raw) (bs : List Int) (Ab : Option Addr) (cb : Nat) (w : World) (h : Blk w G 56 (netA (.slice A n c) 64 N cut)) (hN : N ≤ 15) (ho : w.ownsRow base 33 3 (.slice A n c) n (rs.flatMap Raw.cs)) (hb : BR w w.heap.size Ab bs) (hk : bs.length ≤ 16384) (hop : openB N cut a b = true) (hn : 64 ≤ n) :
    Calls Try.prog 10 #[.pointer (some ⟨G, 0, none⟩), .int .i64 a, .int .i64 b, .slice Ab bs.length cb] w fun e w' => e = .returned (.int .i64 3) ∧ Below w.heap.size w w' := by
  have h2 : twoB N a b = true := by unfold openB at hop; simp only [Bool.and_eq_true] at hop; exact hop.1
  have C := Lib.hid (two_any _ N a b w (nn_blk h))
  have D := Lib.hid (open_any G (.slice A n c) 64 N a b cut w h hN)
  rw [h2] at C
  rw [hop] at D
  have d : decide (16384 < (bs.length : Int)) = false := decide_eq_false (by omega)
  have H := Lib.hid h
  have HO := Lib.hid ho
  have HB := Lib.hid hb
  clear h h2 ho hop hb
  go_enter Try.func10, Try.ntmps10
  go_wp2_with fail
  refine C.out.mono ?_
  rintro e w1 ⟨rfl, rfl⟩
  go_wp2_with fail
  refine D.out.mono ?_
  rintro e w1 ⟨rfl, rfl⟩
  go_wp2_with fail
  clear C D
  refine Rs.region 8 (sendSp w.heap.size G a b Ab cb bs) [26, 27, 28, 29, 30, 31, 32, 33] rfl (by decide) (by kernel_rfl) (by kernel_rfl) (by kernel_rfl) ?_ ?_
  · intro vals V hbV
    simp only [List.take_succ_cons, List.take_zero]
    have hszV := hbV.size
    refine ⟨Rs.stepL [] (by kernel_rfl) ?_, Rs.stepL [26] (by kernel_rfl) ?_, Rs.stepL [27] (by kernel_rfl) ?_, Rs.stepL [] (by kernel_rfl) ?_, Rs.stepL [] (by kernel_rfl) ?_, Rs.stepL [] (by kernel_rfl) ?_, Rs.stepL [31] (by kernel_rfl) ?_, Rs.stepL [29, 30, 32] (by kernel_rfl) ?_, trivial⟩
    · rintro -
      refine ⟨trivial, fun K hK => ?_⟩
      simp only [Rs.frm, List.foldl_cons, List.foldl_nil, Act.put, List.setIfInBounds_toArray, List.set_cons_succ, List.set_cons_zero] at hK ⊢
      have HK := Lib.hid hK
      clear hK
      go_wp2_with fail
      exact HK.out _ _ (Below.refl _ _) rfl
    · rintro ⟨h26, -⟩
      have e26 : vals 26 = .pointer (some ⟨G, 0, none⟩) := h26
      refine ⟨trivial, fun K hK => ?_⟩
      simp only [Rs.frm, List.foldl_cons, List.foldl_nil, Act.put, List.setIfInBounds_toArray, List.set_cons_succ, List.set_cons_zero, e26] at hK ⊢
      have HK := Lib.hid hK
      clear hK
      go_wp2_with fail
      exact HK.out _ _ (Below.refl _ _) rfl
    · rintro ⟨h27, -⟩
      have e27 : vals 27 = .pointer (some ⟨G, 0, none⟩) := h27
      refine ⟨trivial, fun K hK => ?_⟩
      simp only [Rs.frm, List.foldl_cons, List.foldl_nil, Act.put, List.setIfInBounds_toArray, List.set_cons_succ, List.set_cons_zero, e27] at hK ⊢
      have HK := Lib.hid hK
      clear hK
      go_wp2_with fail
      exact HK.out _ _ (Below.refl _ _) rfl
    · rintro -
      refine ⟨trivial, fun K hK => ?_⟩
      simp only [Rs.frm, List.foldl_cons, List.foldl_nil, Act.put, List.setIfInBounds_toArray, List.set_cons_succ, List.set_cons_zero] at hK ⊢
      have HK := Lib.hid hK
      clear hK
      go_wp2_with fail
      exact HK.out _ _ (Below.refl _ _) rfl
    · rintro -
      refine ⟨trivial, fun K hK => ?_⟩
      simp only [Rs.frm, List.foldl_cons, List.foldl_nil, Act.put, List.setIfInBounds_toArray, List.set_cons_succ, List.set_cons_zero] at hK ⊢
      have HK := Lib.hid hK
      clear hK
      go_wp2_with fail
      exact HK.out _ _ (Below.refl _ _) rfl
    · rintro -
      refine ⟨trivial, fun K hK => ?_⟩
      simp only [Rs.frm, List.foldl_cons, List.foldl_nil, Act.put, List.setIfInBounds_toArray, List.set_cons_succ, List.set_cons_zero] at hK ⊢
      have HK := Lib.hid hK
      clear hK
      go_wp2_with fail
      exact HK.out _ _ (Below.refl _ _) rfl
    · rintro ⟨h31, -⟩
      have e31 : vals 31 = .slice Ab bs.length cb := h31
      refine ⟨trivial, fun K hK => ?_⟩
      simp only [Rs.frm, List.foldl_cons, List.foldl_nil, Act.put, List.setIfInBounds_toArray, List.set_cons_succ, List.set_cons_zero, e31] at hK ⊢
      have HK := Lib.hid hK
      clear hK
      go_wp2_with fail
      refine (clone_any bs Ab cb w.heap.size V (HB.out.below hbV) hszV (by omega)).mono ?_
      rintro e w5 ⟨A', c', rfl, hb5, hc1, hc2, ho5⟩
      have hx : w5.ownsRow w.heap.size 5 1 (.slice A' bs.length c') bs.length (bs.map (.int .u8)) := by
        obtain ⟨q1, q2⟩ := ho5
        refine ⟨q1, ?_⟩
        rcases q2 with q2 | ⟨g, cap, cur, e1, e2, e3⟩
        · exact .inl q2
        · exact .inr ⟨g, cap, cur, e1, by omega, e3⟩
      have HX := Lib.hid hx
      clear hx ho5
      go_wp2_with fail
      exact HK.out _ _ hb5 ⟨A', c', rfl, hc1, hc2, HX.out⟩
    · rintro ⟨h29, h30, ⟨A', c', h32, hc1, hc2, hown⟩, -⟩
      have e29 : vals 29 = .int .i64 a := h29
      have e30 : vals 30 = .int .i64 b := h30
      have e32 : vals 32 = .slice A' bs.length c' := h32
      have HX := Lib.hid hown
      refine ⟨trivial, fun K hK => ?_⟩
      simp only [Rs.frm, List.foldl_cons, List.foldl_nil, Act.put, List.setIfInBounds_toArray, List.set_cons_succ, List.set_cons_zero, e29, e30, e32] at hK ⊢
      have HK := Lib.hid hK
      clear hK
      go_wp2_with fail
      exact HK.out _ _ (Below.refl _ _) ⟨A', c', rfl, hc1, hc2, HX.out⟩
  · intro vals V hbV hL
    simp only [List.drop_succ_cons, List.drop_zero]
    obtain ⟨-, -, h28, -, -, -, -, ⟨Am, cm, h33, hc1, hc2, hown⟩, -⟩ := hL
    have e28 : vals 28 = .pointer (some ⟨G, 0, none⟩) := h28
    have e33 : vals 33 = .agg #[.int .i64 a, .int .i64 b, .slice Am bs.length cm] := h33
    simp only [Rs.frm, List.foldl_cons, List.foldl_nil, Act.put, List.setIfInBounds_toArray, List.set_cons_succ, List.set_cons_zero, e28, e33]
    have hszV := hbV.size
    have HGV := Lib.hid (H.out.below hbV H.out.lt)
    have HOV := Lib.hid (own_below0 HO.out hbV)
    have HM := Lib.hid hown
    clear hown h28 h33 e28 e33
    have hG := HGV.out
    have hO := HOV.out
    have CP := Lib.hid (put_no G n c A N cut ⟨a, b, Am, bs.length, cm⟩ V hG hn)
    have hmn := HM.out
    clear hG hO hmn
    go_wp2_with fail
    refine CP.out.mono ?_
    rintro e w9 ⟨rfl, hb9⟩
    go_wp2_with fail
    go_ret
    exact ⟨rfl, hbV.trans (hb9.mono hszV)⟩

set_option maxHeartbeats 2000000 in
theorem send_ok (G n c base : Nat) (A : Option Addr) (N a b : Int) (cut : Nat → Nat → Bool) (rs : List Raw) (bs : List Int) (Ab : Option Addr) (cb : Nat) (w : World) (h : Blk w G 56 (netA (.slice A n c) 64 N cut)) (hN : N ≤ 15) (hbase : base ≤ w.heap.size) (ho : w.ownsRow base 33 3 (.slice A n c) n (rs.flatMap Raw.cs)) (hb : BR w w.heap.size Ab bs) (hk : bs.length ≤ 16384) (hop : openB N cut a b = true) (hn : n < 64) :
    Calls Try.prog 10 #[.pointer (some ⟨G, 0, none⟩), .int .i64 a, .int .i64 b, .slice Ab bs.length cb] w fun e w' => e = .returned (.int .i64 0) ∧ Far (wr G A) w w' ∧ ∃ A' c' Am cm, Blk w' G 56 (netA (.slice A' (n + 1) c') 64 N cut) ∧ w'.ownsRow base 33 3 (.slice A' (n + 1) c') (n + 1) ((rs ++ [(⟨a, b, Am, bs.length, cm⟩ : Raw)]).flatMap Raw.cs) ∧ (∀ k, wr G A' k → wr G A k ∨ w.heap.size ≤ k) ∧ w'.ownsRow w.heap.size 5 1 (.slice Am bs.length cm) bs.length (bs.map (.int .u8)) := by
  have h2 : twoB N a b = true := by unfold openB at hop; simp only [Bool.and_eq_true] at hop; exact hop.1
  have C := Lib.hid (two_any _ N a b w (nn_blk h))
  have D := Lib.hid (open_any G (.slice A n c) 64 N a b cut w h hN)
  rw [h2] at C
  rw [hop] at D
  have d : decide (16384 < (bs.length : Int)) = false := decide_eq_false (by omega)
  have H := Lib.hid h
  have HO := Lib.hid ho
  have HB := Lib.hid hb
  clear h h2 ho hop hb
  go_enter Try.func10, Try.ntmps10
  go_wp2_with fail
  refine C.out.mono ?_
  rintro e w1 ⟨rfl, rfl⟩
  go_wp2_with fail
  refine D.out.mono ?_
  rintro e w1 ⟨rfl, rfl⟩
  go_wp2_with fail
  clear C D
  refine Rs.region 8 (sendSp w.heap.size G a b Ab cb bs) [26, 27, 28, 29, 30, 31, 32, 33] rfl (by decide) (by kernel_rfl) (by kernel_rfl) (by kernel_rfl) ?_ ?_
  · intro vals V hbV
    simp only [List.take_succ_cons, List.take_zero]
    have hszV := hbV.size
    refine ⟨Rs.stepL [] (by kernel_rfl) ?_, Rs.stepL [26] (by kernel_rfl) ?_, Rs.stepL [27] (by kernel_rfl) ?_, Rs.stepL [] (by kernel_rfl) ?_, Rs.stepL [] (by kernel_rfl) ?_, Rs.stepL [] (by kernel_rfl) ?_, Rs.stepL [31] (by kernel_rfl) ?_, Rs.stepL [29, 30, 32] (by kernel_rfl) ?_, trivial⟩
    · rintro -
      refine ⟨trivial, fun K hK => ?_⟩
      simp only [Rs.frm, List.foldl_cons, List.foldl_nil, Act.put, List.setIfInBounds_toArray, List.set_cons_succ, List.set_cons_zero] at hK ⊢
      have HK := Lib.hid hK
      clear hK
      go_wp2_with fail
      exact HK.out _ _ (Below.refl _ _) rfl
    · rintro ⟨h26, -⟩
      have e26 : vals 26 = .pointer (some ⟨G, 0, none⟩) := h26
      refine ⟨trivial, fun K hK => ?_⟩
      simp only [Rs.frm, List.foldl_cons, List.foldl_nil, Act.put, List.setIfInBounds_toArray, List.set_cons_succ, List.set_cons_zero, e26] at hK ⊢
      have HK := Lib.hid hK
      clear hK
      go_wp2_with fail
      exact HK.out _ _ (Below.refl _ _) rfl
    · rintro ⟨h27, -⟩
      have e27 : vals 27 = .pointer (some ⟨G, 0, none⟩) := h27
      refine ⟨trivial, fun K hK => ?_⟩
      simp only [Rs.frm, List.foldl_cons, List.foldl_nil, Act.put, List.setIfInBounds_toArray, List.set_cons_succ, List.set_cons_zero, e27] at hK ⊢
      have HK := Lib.hid hK
      clear hK
      go_wp2_with fail
      exact HK.out _ _ (Below.refl _ _) rfl
    · rintro -
      refine ⟨trivial, fun K hK => ?_⟩
      simp only [Rs.frm, List.foldl_cons, List.foldl_nil, Act.put, List.setIfInBounds_toArray, List.set_cons_succ, List.set_cons_zero] at hK ⊢
      have HK := Lib.hid hK
      clear hK
      go_wp2_with fail
      exact HK.out _ _ (Below.refl _ _) rfl
    · rintro -
      refine ⟨trivial, fun K hK => ?_⟩
      simp only [Rs.frm, List.foldl_cons, List.foldl_nil, Act.put, List.setIfInBounds_toArray, List.set_cons_succ, List.set_cons_zero] at hK ⊢
      have HK := Lib.hid hK
      clear hK
      go_wp2_with fail
      exact HK.out _ _ (Below.refl _ _) rfl
    · rintro -
      refine ⟨trivial, fun K hK => ?_⟩
      simp only [Rs.frm, List.foldl_cons, List.foldl_nil, Act.put, List.setIfInBounds_toArray, List.set_cons_succ, List.set_cons_zero] at hK ⊢
      have HK := Lib.hid hK
      clear hK
      go_wp2_with fail
      exact HK.out _ _ (Below.refl _ _) rfl
    · rintro ⟨h31, -⟩
      have e31 : vals 31 = .slice Ab bs.length cb := h31
      refine ⟨trivial, fun K hK => ?_⟩
      simp only [Rs.frm, List.foldl_cons, List.foldl_nil, Act.put, List.setIfInBounds_toArray, List.set_cons_succ, List.set_cons_zero, e31] at hK ⊢
      have HK := Lib.hid hK
      clear hK
      go_wp2_with fail
      refine (clone_any bs Ab cb w.heap.size V (HB.out.below hbV) hszV (by omega)).mono ?_
      rintro e w5 ⟨A', c', rfl, hb5, hc1, hc2, ho5⟩
      have hx : w5.ownsRow w.heap.size 5 1 (.slice A' bs.length c') bs.length (bs.map (.int .u8)) := by
        obtain ⟨q1, q2⟩ := ho5
        refine ⟨q1, ?_⟩
        rcases q2 with q2 | ⟨g, cap, cur, e1, e2, e3⟩
        · exact .inl q2
        · exact .inr ⟨g, cap, cur, e1, by omega, e3⟩
      have HX := Lib.hid hx
      clear hx ho5
      go_wp2_with fail
      exact HK.out _ _ hb5 ⟨A', c', rfl, hc1, hc2, HX.out⟩
    · rintro ⟨h29, h30, ⟨A', c', h32, hc1, hc2, hown⟩, -⟩
      have e29 : vals 29 = .int .i64 a := h29
      have e30 : vals 30 = .int .i64 b := h30
      have e32 : vals 32 = .slice A' bs.length c' := h32
      have HX := Lib.hid hown
      refine ⟨trivial, fun K hK => ?_⟩
      simp only [Rs.frm, List.foldl_cons, List.foldl_nil, Act.put, List.setIfInBounds_toArray, List.set_cons_succ, List.set_cons_zero, e29, e30, e32] at hK ⊢
      have HK := Lib.hid hK
      clear hK
      go_wp2_with fail
      exact HK.out _ _ (Below.refl _ _) ⟨A', c', rfl, hc1, hc2, HX.out⟩
  · intro vals V hbV hL
    simp only [List.drop_succ_cons, List.drop_zero]
    obtain ⟨-, -, h28, -, -, -, -, ⟨Am, cm, h33, hc1, hc2, hown⟩, -⟩ := hL
    have e28 : vals 28 = .pointer (some ⟨G, 0, none⟩) := h28
    have e33 : vals 33 = .agg #[.int .i64 a, .int .i64 b, .slice Am bs.length cm] := h33
    simp only [Rs.frm, List.foldl_cons, List.foldl_nil, Act.put, List.setIfInBounds_toArray, List.set_cons_succ, List.set_cons_zero, e28, e33]
    have hszV := hbV.size
    have HGV := Lib.hid (H.out.below hbV H.out.lt)
    have HOV := Lib.hid (own_below0 HO.out hbV)
    have HM := Lib.hid hown
    clear hown h28 h33 e28 e33
    have CP := Lib.hid (put_yes G n c base A N cut rs ⟨a, b, Am, bs.length, cm⟩ V HGV.out hn (by omega) HOV.out)
    go_wp2_with fail
    refine CP.out.mono ?_
    rintro e w9 ⟨rfl, hf9, A', c', hb9, ho9, hw9⟩
    have HF := Lib.hid hf9
    have H9 := Lib.hid hb9
    have HO9 := Lib.hid ho9
    have HW9 := Lib.hid hw9
    clear hf9 hb9 ho9 hw9 CP
    go_wp2_with fail
    go_ret
    have hfar : Far (wr G A) w w9 := (Far.of_below hbV).trans HF.out fun _ _ h => h
    refine ⟨rfl, hfar, A', c', Am, cm, H9.out, HO9.out, fun k hk => ?_, own_far HM.out HF.out fun k ek hk => ?_⟩
    · rcases HW9.out k hk with h1 | h1
      · exact .inl h1
      · exact .inr (by omega)
    · have h1 := (HM.out.lt k ek).1
      rcases hk with hk | ⟨ad, rfl, hk⟩
      · have := H.out.lt; omega
      · have := (HO.out.lt ad.block rfl).2; omega
end Go.Proofs.Ytfmflbcmigiciaa
