/- Chapter 05: the document's net: Send. -/
import Derived.Test.YtfmflbcmigiciaaRefE
namespace Go.Proofs.Ytfmflbcmigiciaa
open Go.RowKit

theorem openB_two {N : Int} {cut : Nat → Nat → Bool} {a b : Int} (h : twoB N a b = false) : openB N cut a b = false := by unfold openB; rw [h]; rfl

theorem rawOne (r : Raw) : ∀ u ∈ r.cs, u.oneCell' = true := by
  intro u hu
  simp only [Raw.cs, List.mem_cons, List.not_mem_nil, or_false] at hu
  rcases hu with rfl | rfl | rfl <;> rfl

set_option maxHeartbeats 4000000 in
theorem rsend_any {w : World} {R : Nat → Prop} {M : Nat} {N : Int} {cut : Nat → Nat → Bool} {bag : List Msg} {K : Nat} (h : RefAt w R M N cut bag K) (hK : K ≤ 1000000) (a b : Int) (bs : List Int) (Ab : Option Addr) (cb : Nat) (hb : BR w w.heap.size Ab bs) :
    Calls Try.prog 36 #[.pointer (some ⟨M, 0, none⟩), .int .i64 a, .int .i64 b, .slice Ab bs.length cb] w fun e w' => e = .returned (.int .i64 (sendP N cut bag a b bs).1) ∧ Ref1 w w' R M N cut (sendP N cut bag a b bs).2 K := by
  have HH := Lib.hid h
  obtain ⟨Ar, cr, Ac, cc, rs, cl, h1, h2, h3, h4, h5, h6, h7, h8⟩ := h.ex
  have hlen := h.len
  unfold sendP
  cases ht : twoB N a b with
  | false =>
    have C := Lib.hid (rlink_no M N a b _ _ w h1 ht)
    simp only [if_true]
    clear h h1 h2 h3 h4 h5 h6 h7 h8 ht hb
    go_enter Try.func36, Try.ntmps36
    go_wp2_with fail
    refine C.out.mono ?_
    rintro e w1 ⟨rfl, hb⟩
    have HF := Lib.hid (Ref1.same HH.out (hb.alloc hb.size (.cells #[.int .i64 0, .int .i64 0] 80)))
    clear hb C
    go_wp2_with fail
    go_ret
    exact ⟨rfl, HF.out⟩
  | true =>
    have C := Lib.hid (rlink_yes M N a b _ _ w h1 ht)
    have HOA := Lib.hid (openB_agr h6 ht)
    have H1 := Lib.hid h1
    have H2 := Lib.hid h2
    have H3 := Lib.hid h3
    have H4 := Lib.hid h4.1
    have H5 := Lib.hid (Nat.le_trans h5 hK)
    have HB := Lib.hid hb
    have hml := h1.lt
    have hrl := h3.1
    simp only [Bool.true_eq_false, if_false]
    clear h h1 h2 h3 h4 h5 h6 h7 h8 ht hb
    by_cases hbig : 16384 < bs.length
    · have d1 : decide ((16384 : Int) < bs.length) = true := decide_eq_true (by omega)
      simp only [if_pos hbig]
      go_enter Try.func36, Try.ntmps36
      go_wp2_with fail
      refine C.out.mono ?_
      rintro e w1 ⟨rfl, hb⟩
      have HF := Lib.hid (Ref1.same HH.out (hb.alloc hb.size (.cells #[.int .i64 (linkP a b).1, .int .i64 (linkP a b).2] 80)))
      clear hb C
      go_wp2_with fail
      go_ret
      exact ⟨rfl, HF.out⟩
    · have d1 : decide ((16384 : Int) < bs.length) = false := decide_eq_false (by omega)
      simp only [if_neg hbig]
      by_cases hop : openB N cut a b = false
      · have hcut : decide (linkP a b ∈ cl) = true := by have := HOA.out; rw [hop] at this; simpa using this.symm
        simp only [if_pos hop]
        have HCUT := Lib.hid hcut
        clear hop hcut
        go_enter Try.func36, Try.ntmps36
        go_wp2_with fail
        refine C.out.mono ?_
        rintro e w1 ⟨rfl, hb⟩
        have hb2 := hb.alloc hb.size (.cells #[.int .i64 (linkP a b).1, .int .i64 (linkP a b).2] 80)
        have D := rcut_any M _ _ cl Ac cc (linkP a b) _ (H1.out.below hb2 H1.out.lt) ((H4.out.below hb2).more hb2.size) H5.out
        rw [HCUT.out] at D
        have DD := Lib.hid D
        have HB2 := Lib.hid hb2
        clear hb hb2 C D
        go_wp2_with fail
        refine DD.out.mono ?_
        rintro e w2 ⟨rfl, hb3⟩
        have HF := Lib.hid (Ref1.same HH.out (HB2.out.trans (hb3.mono HB2.out.size)))
        clear hb3 DD
        go_wp2_with fail
        go_ret
        exact ⟨rfl, HF.out⟩
      · have hcut : decide (linkP a b ∈ cl) = false := by
          have := HOA.out
          cases hd : decide (linkP a b ∈ cl) with
          | false => rfl
          | true => rw [hd] at this; exact absurd this hop
        simp only [if_neg hop]
        have HCUT := Lib.hid hcut
        clear hop hcut
        by_cases hfull : 64 ≤ bag.length
        · have d2 : decide ((64 : Int) ≤ bag.length) = true := decide_eq_true (by omega)
          simp only [if_pos hfull]
          go_enter Try.func36, Try.ntmps36
          go_wp2_with fail
          refine C.out.mono ?_
          rintro e w1 ⟨rfl, hb⟩
          have hb2 := hb.alloc hb.size (.cells #[.int .i64 (linkP a b).1, .int .i64 (linkP a b).2] 80)
          have D := rcut_any M _ _ cl Ac cc (linkP a b) _ (H1.out.below hb2 H1.out.lt) ((H4.out.below hb2).more hb2.size) H5.out
          rw [HCUT.out] at D
          have DD := Lib.hid D
          have HB2 := Lib.hid hb2
          clear hb hb2 C D
          go_wp2_with fail
          refine DD.out.mono ?_
          rintro e w2 ⟨rfl, hb3⟩
          have hbw := HB2.out.trans (hb3.mono HB2.out.size)
          have HF := Lib.hid (Ref1.same HH.out hbw)
          have hm2 := H1.out.below hbw hml
          have m1 := hm2.cell 1
          have ml := hm2.lt
          clear hb3 DD hm2 hbw
          go_wp2_with fail
          go_ret
          exact ⟨rfl, HF.out⟩
        · have d2 : decide ((64 : Int) ≤ bag.length) = false := decide_eq_false (by omega)
          simp only [if_neg hfull]
          go_enter Try.func36, Try.ntmps36
          go_wp2_with fail
          refine C.out.mono ?_
          rintro e w1 ⟨rfl, hb⟩
          have hb2 := hb.alloc hb.size (.cells #[.int .i64 (linkP a b).1, .int .i64 (linkP a b).2] 80)
          have D := rcut_any M _ _ cl Ac cc (linkP a b) _ (H1.out.below hb2 H1.out.lt) ((H4.out.below hb2).more hb2.size) H5.out
          rw [HCUT.out] at D
          have DD := Lib.hid D
          have HB2 := Lib.hid hb2
          clear hb hb2 C D
          go_wp2_with fail
          refine DD.out.mono ?_
          rintro e w2 ⟨rfl, hb3⟩
          have hbw := HB2.out.trans (hb3.mono HB2.out.size)
          have hm2 := H1.out.below hbw hml
          have m1 := hm2.cell 1
          have ml := hm2.lt
          have HBW := Lib.hid hbw
          have HRW := Lib.hid ((H2.out.1.below hbw).more hbw.size)
          have HBB := Lib.hid ((HB.out.below hbw).more hbw.size)
          obtain ⟨i0, hi, hz0, hz1, hz2⟩ := info_parts info33
          obtain ⟨i5, hi5, hy0, hy1, hy2⟩ := info_parts info5
          clear hb3 DD hm2 hbw
          go_wp2_with (at_builtin; refine wpList_append_any _ rfl (.tmp 33) (.tmp 37) 39 rfl w2.heap.size 33 i0 _ 3 40 Try.underlying39 hi hz0 hz1 hz2 rfl (by decide) (.slice (some ⟨w2.heap.size, 0, none⟩) 0 0) 0 [] rfl (World.ownsRow_made w2 #[] 0 (Nat.le_refl _) (Nat.zero_le _) rfl) w2.heap.size Ar bag.length cr (rs.flatMap Raw.cs) rfl (HRW.out.alloc (Nat.le_refl _) _) (raw_one _) ?c1 ?c2 ?c3 ?_)
          case c1 => simp only [maxLen]; omega
          case c2 => omega
          case c3 => simp
          intro v1 w3 hown hg hat
          obtain ⟨hb3, hlt3, A1, c1, rfl, hc1, hc2, _, ho1⟩ := lit_post hown hg
          have HO1 := Lib.hid ho1
          have HB3 := Lib.hid hb3
          have HBB3 := Lib.hid ((HBB.out.below hb3).more hb3.size)
          clear hown hg hat ho1 hb3 m1
          go_wp2_with (at_builtin; refine wpList_append_any _ rfl (.tmp 41) (.tmp 42) 24 rfl w3.heap.size 5 i5 _ 1 1 Try.underlying24 hi5 hy0 hy1 hy2 rfl (by decide) (.slice (some ⟨w3.heap.size, 0, none⟩) 0 0) 0 [] rfl (World.ownsRow_made w3 #[] 0 (Nat.le_refl _) (Nat.zero_le _) rfl) w3.heap.size Ab bs.length cb (bs.map (.int .u8)) rfl (HBB3.out.alloc (Nat.le_refl _) _) (u8_one _) ?c1 ?c2 ?c3 ?_)
          case c1 => simp only [maxLen]; omega
          case c2 => omega
          case c3 => simp
          intro v2 w4 hown hg hat
          obtain ⟨hb4, hlt4, A2, c2, rfl, hd1, hd2, _, ho2⟩ := lit_post hown hg
          have HO2 := Lib.hid ho2
          have HB4 := Lib.hid hb4
          have HO14 := Lib.hid (own_below0 HO1.out hb4)
          clear hown hg hat ho2
          have hwa := (Below.refl w4.heap.size w4).alloc (Nat.le_refl _) (.cells #[.int .i64 a, .int .i64 b, .slice A2 bs.length c2] 33)
          have HO1a := Lib.hid (own_below0 HO14.out hwa)
          have HR1 := Lib.hid (show Reads (w4.alloc (.cells #[.int .i64 a, .int .i64 b, .slice A2 bs.length c2] 33)) (w4.alloc (.cells #[.int .i64 a, .int .i64 b, .slice A2 bs.length c2] 33)).heap.size 3 (some ⟨w4.heap.size, 0, none⟩) 1 (Raw.cs ⟨a, b, A2, bs.length, c2⟩) from Reads.of_blk (Blk.new w4 33 #[.int .i64 a, .int .i64 b, .slice A2 bs.length c2]) rfl rfl)
          have hs3 := HB3.out.size
          have hs4 := HB4.out.size
          clear hwa
          go_wp2_with (at_builtin; refine wpList_append_any _ rfl (.tmp 38) (.tmp 45) 39 rfl w2.heap.size 33 i0 _ 3 40 Try.underlying39 hi hz0 hz1 hz2 rfl (by decide) (.slice A1 bag.length c1) bag.length (rs.flatMap Raw.cs) rfl HO1a.out _ (some ⟨w4.heap.size, 0, none⟩) 1 1 (Raw.cs ⟨a, b, A2, bs.length, c2⟩) rfl HR1.out (rawOne _) ?c1 ?c2 ?c3 ?_)
          case c1 => simp only [maxLen]; omega
          case c2 => omega
          case c3 => simp; omega
          intro v3 w5 hown3 hg3 hat3
          obtain ⟨A3, c3, rfl, -, -⟩ := own_form hown3
          have hb5 : Below w2.heap.size w4 w5 := ((Below.refl _ w4).alloc (by omega) _).grown hg3 (by simp; omega) (fun x ex => (HO1a.out.lt x ex).1)
          have hwt : Below w2.heap.size w2 w5 := (HB3.out.trans (HB4.out.mono (by omega))).trans hb5
          have hwa : Below w.heap.size w w5 := HBW.out.trans (hwt.mono HBW.out.size)
          have hlen1 : bag.length + 1 = (bag ++ [(⟨a, b, bs⟩ : Msg)]).length := by simp
          have hO2 : w5.ownsRow w3.heap.size 5 1 (.slice A2 bs.length c2) bs.length (bs.map (.int .u8)) := by
            have hfar : Far (fun x => (Value.slice A1 bag.length c1).ownBlock = some x) (w4.alloc (.cells #[.int .i64 a, .int .i64 b, .slice A2 bs.length c2] 33)) w5 := Far.grown hg3 fun x ex => ex
            exact own_far (own_below0 HO2.out ((Below.refl _ w4).alloc (Nat.le_refl _) _)) hfar fun x ex hx => own_own_ne HO14.out HO2.out (by decide) hx ex
          have hY : ∀ x, (Value.slice A2 bs.length c2).ownBlock = some x → w.heap.size ≤ x ∧ x < w5.heap.size := fun x ex => by
            have := hO2.lt x ex
            have := HBW.out.size
            omega
          have hms : MsgsAt (fun x => R x ∨ (Value.slice A2 bs.length c2).ownBlock = some x) w5 (rs ++ [(⟨a, b, A2, bs.length, c2⟩ : Raw)]) (bag ++ [(⟨a, b, bs⟩ : Msg)]) :=
            MsgsAt.snoc ((H3.out.upd (Upd.of_below HH.out.lt hwa)).moreR fun _ h => .inl h) (show MsgAt _ w5 ⟨a, b, A2, bs.length, c2⟩ ⟨a, b, bs⟩ from ⟨rfl, rfl, rfl, by simp only []; omega, rd_own hO2 fun x ex => .inr ex⟩)
          have hof : w5.ownsRow w.heap.size 33 3 (.slice A3 (bag ++ [(⟨a, b, bs⟩ : Msg)]).length c3) (bag ++ [(⟨a, b, bs⟩ : Msg)]).length ((rs ++ [(⟨a, b, A2, bs.length, c2⟩ : Raw)]).flatMap Raw.cs) := by
            rw [← hlen1, List.flatMap_append, List.flatMap_singleton]
            exact own_low hown3 HBW.out.size
          have hF := ref_setbag HH.out hwa (Y := fun x => (Value.slice A2 bs.length c2).ownBlock = some x) hY hms hof (by simp; omega)
          rw [← hlen1] at hF
          have HF := Lib.hid hF
          have hm5 := H1.out.below hwa hml
          have m1 := hm5.cell 1
          have ml5 := hm5.lt
          have mf := hm5.frozen
          clear hF hown3 hg3 hat3 hb5 hwt hwa hlen1 hO2 hY hms hof hm5
          go_wp2_with fail
          go_ret
          exact ⟨rfl, HF.out⟩
end Go.Proofs.Ytfmflbcmigiciaa
