/- Chapter 14: a fragment copied. -/
import Derived.Test.YtcmidhecmhbeoaaWalkP
namespace Go.Proofs.Ytcmidhecmhbeoaa
open Go.RowKit

theorem info25 : (Try.prog.info? 25).map (fun i => (i.zero, i.size, i.bytes)) = some (some (.agg #[.int .u64 0, .slice none 0 0]), 2, 32) := by kernel_rfl

/-- A new row of one fragment whose places are a row of the call's own. -/
def newFrag (base : Nat) (first : Int) (l : List Pl) : Rg.Spec :=
  ⟨fun v w => ∃ g A' c', base ≤ g ∧ v = .slice (some ⟨g, 0, none⟩) 1 1 ∧ Blk w g 25 #[.int .u64 first, .slice A' l.length c'] ∧ l.length ≤ c' ∧ c' ≤ maxLen ∧ w.ownsRow base 37 2 (.slice A' l.length c') l.length (l.flatMap Pl.cs),
   fun _ _ _ hb ⟨g, A', c', h0, h1, h2, h3, h4, h5⟩ => ⟨g, A', c', h0, h1, h2.below hb h2.lt, h3, h4, own_below h5 hb⟩⟩

def copySp (H : Nat) (g o k1 : Nat) (first : Int) (A : Option Addr) (c : Nat) (l : List Pl) : List (Tmp × Rg.Spec) :=
  [(11, .is (.slice none 0 0)), (12, .is (.slice (some ⟨g, o, none⟩) 1 k1)), (13, .is (.int .i64 0)), (14, .is (.pointer (some ⟨g, o, none⟩))), (15, .is (.pointer (some ⟨g, o, none⟩))), (16, .is (.int .u64 first)),
    (17, .blk H (fun g => .slice (some ⟨g, 0, none⟩) 0 0) 37 #[]), (18, .is (.slice (some ⟨g, o, none⟩) 1 k1)), (19, .is (.int .i64 0)), (20, .is (.pointer (some ⟨g, o, none⟩))), (21, .is (.pointer (some ⟨g, o + 1, none⟩))), (22, .is (.slice A l.length c)),
    (23, ownSpec id H l), (24, ownSpec (fun v => .agg #[.int .u64 first, v]) H l), (25, newFrag H first l)]

set_option maxHeartbeats 4000000 in
theorem copyFrags_any (first : Int) (l : List Pl) (A : Option Addr) (c g o k1 : Nat) (w : World) (hf : FC w g o first A l.length c) (hp : PR w w.heap.size A l) (hg : g < w.heap.size) (hl : l.length ≤ 100000) :
    Calls Try.prog 12 #[.slice (some ⟨g, o, none⟩) 1 k1] w fun e w' => ∃ g' k' A' c', e = .returned (.slice (some ⟨g', 0, none⟩) 1 k') ∧ Below w.heap.size w w' ∧ FC w' g' 0 first A' l.length c' ∧ g' < w'.heap.size ∧ PR w' w'.heap.size A' l := by
  obtain ⟨i0, hi, hz0, hz1, hz2⟩ := info_parts info37
  obtain ⟨j0, ji, jz0, jz1, jz2⟩ := info_parts info25
  have H := Lib.hid hp
  have HF := Lib.hid hf
  clear hp hf
  go_enter Try.func12, Try.ntmps12
  go_wp2
  go_loopw [3, 4] (fun s i wr => Below w.heap.size w wr ∧ ((i = .int .i64 0 ∧ s = .slice none 0 0) ∨ (i = .int .i64 1 ∧ ∃ g' k' A' c', s = .slice (some ⟨g', 0, none⟩) 1 k' ∧ FC wr g' 0 first A' l.length c' ∧ g' < wr.heap.size ∧ PR wr wr.heap.size A' l))) (fun _ i _ => (1 - intOf i).toNat)
  case atStart => exact ⟨Below.refl _ _, .inl ⟨rfl, rfl⟩⟩
  case round =>
    obtain ⟨hb, ⟨rfl, rfl⟩ | ⟨rfl, g', k', A', c', rfl, hff, hgg, hpp⟩⟩ := hrel
    · have HB := Lib.hid hb
      clear hb
      go_wp2_with fail
      refine Rs.region 15 (copySp w.heap.size g o k1 first A c l) [11, 12, 13, 14, 15, 16, 17, 18, 19, 20, 21, 22, 23, 24, 25] rfl (by decide) (by kernel_rfl) (by kernel_rfl) (by kernel_rfl) ?_ ?_
      · intro vals V hb
        have hbW := HB.out.trans (hb.mono HB.out.size)
        have hBW := Lib.hid hbW
        have hszV := hbW.size
        obtain ⟨f0, f1⟩ := HF.out.below hbW hg
        clear hbW
        simp only [List.take_succ_cons, List.take_zero]
        refine ⟨Rs.stepL [] (by kernel_rfl) ?_, Rs.stepL [] (by kernel_rfl) ?_, Rs.stepL [] (by kernel_rfl) ?_, Rs.stepL [12, 13] (by kernel_rfl) ?_, Rs.stepL [14] (by kernel_rfl) ?_, Rs.stepL [15] (by kernel_rfl) ?_, Rs.stepL [] (by kernel_rfl) ?_, Rs.stepL [] (by kernel_rfl) ?_, Rs.stepL [] (by kernel_rfl) ?_, Rs.stepL [18, 19] (by kernel_rfl) ?_, Rs.stepL [20] (by kernel_rfl) ?_, Rs.stepL [21] (by kernel_rfl) ?_, Rs.stepL [17, 22] (by kernel_rfl) ?_, Rs.stepL [16, 23] (by kernel_rfl) ?_, Rs.stepL [24] (by kernel_rfl) ?_, trivial⟩
        · rintro -
          refine ⟨trivial, fun K hK => ?_⟩
          simp only [Rs.frm, List.foldl_cons, List.foldl_nil, Act.put, List.setIfInBounds_toArray, List.set_cons_succ, List.set_cons_zero] at hK ⊢
          have HK := Lib.hid hK
          clear hK
          go_wp2_with fail
          exact HK.out _ _ (Below.refl _ _) rfl
        · rintro -
          refine ⟨trivial, fun K hK => ?_⟩
          simp only [Rs.frm, List.foldl_cons, List.foldl_nil, Act.put, List.setIfInBounds_toArray, List.set_cons_succ, List.set_cons_zero] at hK ⊢
          have HK := Lib.hid hK
          clear hK
          go_wp2_with fail
          exact HK.out _ _ (Below.refl _ _) rfl
        · rintro -
          refine ⟨trivial, fun K hK => ?_⟩
          simp only [Rs.frm, List.foldl_cons, List.foldl_nil, Act.put, List.setIfInBounds_toArray, List.set_cons_succ, List.set_cons_zero] at hK ⊢
          have HK := Lib.hid hK
          clear hK
          go_wp2_with fail
          exact HK.out _ _ (Below.refl _ _) rfl
        · rintro ⟨h12, h13, -⟩
          have e12 : vals 12 = .slice (some ⟨g, o, none⟩) 1 k1 := h12
          have e13 : vals 13 = .int .i64 0 := h13
          refine ⟨trivial, fun K hK => ?_⟩
          simp only [Rs.frm, List.foldl_cons, List.foldl_nil, Act.put, List.setIfInBounds_toArray, List.set_cons_succ, List.set_cons_zero, e12, e13] at hK ⊢
          have HK := Lib.hid hK
          clear hK
          go_wp2_with fail
          exact HK.out _ _ (Below.refl _ _) rfl
        · rintro ⟨h14, -⟩
          have e14 : vals 14 = .pointer (some ⟨g, o, none⟩) := h14
          refine ⟨trivial, fun K hK => ?_⟩
          simp only [Rs.frm, List.foldl_cons, List.foldl_nil, Act.put, List.setIfInBounds_toArray, List.set_cons_succ, List.set_cons_zero, e14] at hK ⊢
          have HK := Lib.hid hK
          clear hK
          go_wp2_with fail
          exact HK.out _ _ (Below.refl _ _) rfl
        · rintro ⟨h15, -⟩
          have e15 : vals 15 = .pointer (some ⟨g, o, none⟩) := h15
          refine ⟨trivial, fun K hK => ?_⟩
          simp only [Rs.frm, List.foldl_cons, List.foldl_nil, Act.put, List.setIfInBounds_toArray, List.set_cons_succ, List.set_cons_zero, e15] at hK ⊢
          have HK := Lib.hid hK
          clear hK
          go_wp2_with fail
          exact HK.out _ _ (Below.refl _ _) rfl
        · rintro -
          refine ⟨trivial, fun K hK => ?_⟩
          simp only [Rs.frm, List.foldl_cons, List.foldl_nil, Act.put, List.setIfInBounds_toArray, List.set_cons_succ, List.set_cons_zero] at hK ⊢
          have HK := Lib.hid hK
          clear hK
          go_wp2_with fail
          exact HK.out _ _ ((Below.refl _ _).alloc (Nat.le_refl _) _) ⟨V.heap.size, hszV, rfl, Blk.new _ _ _⟩
        · rintro -
          refine ⟨trivial, fun K hK => ?_⟩
          simp only [Rs.frm, List.foldl_cons, List.foldl_nil, Act.put, List.setIfInBounds_toArray, List.set_cons_succ, List.set_cons_zero] at hK ⊢
          have HK := Lib.hid hK
          clear hK
          go_wp2_with fail
          exact HK.out _ _ (Below.refl _ _) rfl
        · rintro -
          refine ⟨trivial, fun K hK => ?_⟩
          simp only [Rs.frm, List.foldl_cons, List.foldl_nil, Act.put, List.setIfInBounds_toArray, List.set_cons_succ, List.set_cons_zero] at hK ⊢
          have HK := Lib.hid hK
          clear hK
          go_wp2_with fail
          exact HK.out _ _ (Below.refl _ _) rfl
        · rintro ⟨h18, h19, -⟩
          have e18 : vals 18 = .slice (some ⟨g, o, none⟩) 1 k1 := h18
          have e19 : vals 19 = .int .i64 0 := h19
          refine ⟨trivial, fun K hK => ?_⟩
          simp only [Rs.frm, List.foldl_cons, List.foldl_nil, Act.put, List.setIfInBounds_toArray, List.set_cons_succ, List.set_cons_zero, e18, e19] at hK ⊢
          have HK := Lib.hid hK
          clear hK
          go_wp2_with fail
          exact HK.out _ _ (Below.refl _ _) rfl
        · rintro ⟨h20, -⟩
          have e20 : vals 20 = .pointer (some ⟨g, o, none⟩) := h20
          refine ⟨trivial, fun K hK => ?_⟩
          simp only [Rs.frm, List.foldl_cons, List.foldl_nil, Act.put, List.setIfInBounds_toArray, List.set_cons_succ, List.set_cons_zero, e20] at hK ⊢
          have HK := Lib.hid hK
          clear hK
          go_wp2_with fail
          exact HK.out _ _ (Below.refl _ _) rfl
        · rintro ⟨h21, -⟩
          have e21 : vals 21 = .pointer (some ⟨g, o + 1, none⟩) := h21
          refine ⟨trivial, fun K hK => ?_⟩
          simp only [Rs.frm, List.foldl_cons, List.foldl_nil, Act.put, List.setIfInBounds_toArray, List.set_cons_succ, List.set_cons_zero, e21] at hK ⊢
          have HK := Lib.hid hK
          clear hK
          go_wp2_with fail
          exact HK.out _ _ (Below.refl _ _) rfl
        · rintro ⟨⟨r, hr1, hr2, hr3⟩, h22, -⟩
          have e17 : vals 17 = .slice (some ⟨r, 0, none⟩) 0 0 := hr2
          have e22 : vals 22 = .slice A l.length c := h22
          refine ⟨trivial, fun K hK => ?_⟩
          simp only [Rs.frm, List.foldl_cons, List.foldl_nil, Act.put, List.setIfInBounds_toArray, List.set_cons_succ, List.set_cons_zero, e17, e22] at hK ⊢
          have HK := Lib.hid hK
          clear hK
          refine wpList_append_lit V rfl (.tmp 17) (.tmp 22) 23 rfl 37 i0 _ 2 16 Try.underlying23 hi hz0 hz1 hz2 rfl (by decide) r w.heap.size rfl hr3 hr1 w.heap.size A l.length c (l.flatMap Pl.cs) rfl (H.out.below hBW.out) (pl_one l) (by simp only [maxLen]; omega) (by omega) ?_
          intro A' c' W' hc1 hc2 hown hb'
          exact HK.out _ _ hb' ⟨A', c', rfl, hc1, hc2, hown⟩
        · rintro ⟨h16, ⟨A', c', h23, hc1, hc2, hown⟩, -⟩
          have e16 : vals 16 = .int .u64 first := h16
          have e23 : vals 23 = .slice A' l.length c' := h23
          refine ⟨trivial, fun K hK => ?_⟩
          simp only [Rs.frm, List.foldl_cons, List.foldl_nil, Act.put, List.setIfInBounds_toArray, List.set_cons_succ, List.set_cons_zero, e16, e23] at hK ⊢
          have HK := Lib.hid hK
          clear hK
          have HO := Lib.hid hown
          clear hown
          go_wp2_with fail
          exact HK.out _ _ (Below.refl _ _) ⟨A', c', rfl, hc1, hc2, HO.out⟩
        · rintro ⟨⟨A', c', h24, hc1, hc2, hown⟩, -⟩
          have e24 : vals 24 = .agg #[.int .u64 first, .slice A' l.length c'] := h24
          refine ⟨trivial, fun K hK => ?_⟩
          simp only [Rs.frm, List.foldl_cons, List.foldl_nil, Act.put, List.setIfInBounds_toArray, List.set_cons_succ, List.set_cons_zero, e24] at hK ⊢
          have HK := Lib.hid hK
          clear hK
          have HO := Lib.hid hown
          clear hown
          go_wp2_with fail
          exact HK.out _ _ ((Below.refl _ _).alloc (Nat.le_refl _) _) ⟨V.heap.size, A', c', hszV, rfl, Blk.new _ _ _, hc1, hc2, own_below HO.out ((Below.refl _ _).alloc (Nat.le_refl _) _)⟩
      · intro vals V hb hL
        simp only [List.drop_succ_cons, List.drop_zero]
        obtain ⟨h11, -, -, -, -, -, -, -, -, -, -, -, -, -, ⟨g2, A', c', hg0, h25, hk, hc1, hc2, hown⟩, -⟩ := hL
        have e11 : vals 11 = .slice none 0 0 := h11
        have e25 : vals 25 = .slice (some ⟨g2, 0, none⟩) 1 1 := h25
        simp only [Rs.frm, List.foldl_cons, List.foldl_nil, Act.put, List.setIfInBounds_toArray, List.set_cons_succ, List.set_cons_zero, e11, e25]
        have hbW := HB.out.trans (hb.mono HB.out.size)
        refine wpList_append_any V rfl (.tmp 11) (.tmp 25) 27 rfl V.heap.size 25 j0 _ 2 32 Try.underlying27 ji jz0 jz1 jz2 rfl (by decide) (.slice none 0 0) 0 [] rfl ⟨rfl, .inl ⟨rfl, rfl⟩⟩ V.heap.size (some ⟨g2, 0, none⟩) 1 1 [.int .u64 first, .slice A' l.length c'] rfl (Reads.of_blk hk rfl rfl) (by simp [Value.oneCell']) (by simp [maxLen]) (by omega) (Nat.le_refl _) ?_
        intro v' V2 hown2 hgr hat
        have hb2 : Below V.heap.size V V2 := below_of_grown hgr
        have ho2 := own_below hown hb2
        obtain ⟨A3, c3, rfl, -, -⟩ := own_form hown2
        obtain ⟨g3, rfl, hg3⟩ := own_addr hown2 (by omega)
        have q0 := hown2.cellAt 0 (by omega)
        have q1 := hown2.cellAt 1 (by omega)
        have q2 := (hown2.lt g3 rfl).2
        have HQ : Hid (FC V2 g3 0 first A' l.length c') := Lib.hid ⟨q0, q1⟩
        have HR : Hid (PR V2 V2.heap.size A' l) := Lib.hid (Reads.of_own ho2)
        have hb3 := hbW.trans (hb2.mono hbW.size)
        clear hown hown2 hgr hat ho2 q0 q1 hb2 hk h11 h25 hb hbW
        go_wp2_with fail
        go_roundw
        case rel => exact ⟨hb3, .inr ⟨rfl, g3, _, A', c', rfl, HQ.out, q2, HR.out⟩⟩
        case measure => simp [intOf]
    · have HQ := Lib.hid hff
      have HR := Lib.hid hpp
      clear hff hpp
      go_wp2_with fail
      go_ret
      exact ⟨g', k', A', c', rfl, hb, HQ.out, hgg, HR.out⟩
end Go.Proofs.Ytcmidhecmhbeoaa
