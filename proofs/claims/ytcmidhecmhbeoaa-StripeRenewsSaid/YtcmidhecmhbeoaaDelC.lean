/- Chapter 14: slices.Delete of one place, on a row of the call's own. -/
import Derived.Test.YtcmidhecmhbeoaaDelB
namespace Go.Proofs.Ytcmidhecmhbeoaa
open Go.RowKit

theorem own_cap {w : World} {base g n cap : Nat} {xs : List Value} (h : w.ownsRow base 37 2 (.slice (some ⟨g, 0, none⟩) n cap) n xs) : n ≤ cap ∧ cap ≤ maxLen ∧ base ≤ g := by
  rcases h.2 with ⟨h', _⟩ | ⟨g', cap', cur, h', hb, _, hn, hm, _⟩
  · cases h'
  · injection h' with h1 _ h3
    simp only [Option.some.injEq, Addr.mk.injEq, and_true] at h1
    subst h1 h3
    exact ⟨hn, hm, hb⟩
theorem own_cut {w : World} {base g n k cap : Nat} {xs : List Value} (h : w.ownsRow base 37 2 (.slice (some ⟨g, 0, none⟩) n cap) n xs) (hk : k ≤ n) : w.ownsRow base 37 2 (.slice (some ⟨g, 0, none⟩) k cap) k (xs.take (k * 2)) := by
  obtain ⟨h1, h2⟩ := h
  rcases h2 with ⟨h2, _⟩ | ⟨g', cap', cur, h2, hb, hg, hn, hm, hs, ht⟩
  · cases h2
  · simp only [Value.slice.injEq, Option.some.injEq, Addr.mk.injEq, and_true, true_and] at h2
    obtain ⟨rfl, rfl⟩ := h2
    refine ⟨by rw [List.length_take]; omega, .inr ⟨g, cap, cur, rfl, hb, hg, by omega, hm, hs, ?_⟩⟩
    rw [← ht, List.take_take]
    congr 1
    omega
theorem own_widen {w : World} {base g n k cap : Nat} {xs : List Value} (h : w.ownsRow base 37 2 (.slice (some ⟨g, 0, none⟩) k cap) k xs) (hk : k ≤ n) (hn : n ≤ cap) : ∃ ys, w.ownsRow base 37 2 (.slice (some ⟨g, 0, none⟩) n cap) n ys ∧ ys.take (k * 2) = xs := by
  obtain ⟨h1, h2⟩ := h
  rcases h2 with ⟨h2, _⟩ | ⟨g', cap', cur, h2, hb, hg, _, hm, hs, ht⟩
  · cases h2
  · simp only [Value.slice.injEq, Option.some.injEq, Addr.mk.injEq, and_true, true_and] at h2
    obtain ⟨rfl, rfl⟩ := h2
    refine ⟨cur.toList.take (n * 2), ⟨by rw [List.length_take, Array.length_toList]; omega, .inr ⟨g, cap, cur, rfl, hb, hg, hn, hm, hs, rfl⟩⟩, ?_⟩
    rw [List.take_take, ← ht]
    congr 1
    omega
theorem flat_take (l : List Pl) (k : Nat) (hk : k ≤ l.length) : (l.flatMap Pl.cs).take (k * 2) = (l.take k).flatMap Pl.cs := by
  have h1 : l.flatMap Pl.cs = (l.take k).flatMap Pl.cs ++ (l.drop k).flatMap Pl.cs := by rw [← List.flatMap_append, List.take_append_drop]
  have h2 : ((l.take k).flatMap Pl.cs).length = k * 2 := by rw [flat_len Pl.cs 2 pl_len, List.length_take]; congr 1; omega
  rw [h1, List.take_append_of_le_length (by omega), List.take_of_length_le (by omega)]
theorem flat_drop (l : List Pl) (k : Nat) (hk : k ≤ l.length) : (l.flatMap Pl.cs).drop (k * 2) = (l.drop k).flatMap Pl.cs := by
  have h1 : l.flatMap Pl.cs = (l.take k).flatMap Pl.cs ++ (l.drop k).flatMap Pl.cs := by rw [← List.flatMap_append, List.take_append_drop]
  have h2 : ((l.take k).flatMap Pl.cs).length = k * 2 := by rw [flat_len Pl.cs 2 pl_len, List.length_take]; congr 1; omega
  rw [h1, List.drop_append_of_le_length (by omega), List.drop_of_length_le (by omega)]
  rfl

def delSp (g n cap k off : Nat) : List (Tmp × Rg.Spec) :=
  [(20, .is (.slice (some ⟨g, 0, none⟩) n cap)), (21, .is (.int .i64 k)), (22, .is (.slice (some ⟨g, 0, none⟩) k cap)), (23, .is (.slice (some ⟨g, 0, none⟩) n cap)), (24, .is (.int .i64 ((k : Int) + 1))), (25, .is (.slice (some ⟨g, off, none⟩) (n - (k + 1)) (cap - (k + 1))))]

set_option maxHeartbeats 2000000 in
theorem del_any (l : List Pl) (g cap k base : Nat) (w : World) (h : w.ownsRow base 37 2 (.slice (some ⟨g, 0, none⟩) l.length cap) l.length (l.flatMap Pl.cs)) (hk : k < l.length) (hl : l.length ≤ 100000) (hbase : base ≤ w.heap.size) :
    Calls Try.prog 40 #[.slice (some ⟨g, 0, none⟩) l.length cap, .int .i64 k, .int .i64 ((k : Int) + 1)] w fun e w' => e = .returned (.slice (some ⟨g, 0, none⟩) (l.length - 1) cap) ∧ Below base w w' ∧ w'.ownsRow base 37 2 (.slice (some ⟨g, 0, none⟩) (l.length - 1) cap) (l.length - 1) ((l.take k ++ l.drop (k + 1)).flatMap Pl.cs) := by
  obtain ⟨hnc, hcm, hgb⟩ := own_cap h
  unfold maxLen at hcm
  have H := Lib.hid h
  obtain ⟨off, hoff⟩ : ∃ off, off = if cap = k + 1 then 0 else (k + 1) * 2 := ⟨_, rfl⟩
  have hsl : (if cap = k + 1 then (some ⟨g, 0, none⟩ : Option Addr) else some ⟨g, (k + 1) * 2, none⟩) = some ⟨g, off, none⟩ := by rw [hoff]; split <;> rfl
  have hrd : ∀ V : World, Below w.heap.size w V → ∀ j u, ((l.drop (k + 1)).flatMap Pl.cs)[j]? = some u → V.cell? ((⟨g, off, none⟩ : Addr).add j) = some u := by
    intro V hb j u hu
    have hj : j < (l.length - (k + 1)) * 2 := by
      have := (List.getElem?_eq_some_iff.1 hu).1
      rw [flat_len Pl.cs 2 pl_len, List.length_drop] at this
      exact this
    have hc : ¬ cap = k + 1 := by omega
    rw [hoff, if_neg hc, Addr.add_lit]
    have ho := own_below H.out hb
    rw [← flat_drop l (k + 1) (by omega), List.getElem?_drop] at hu
    rw [ho.cellAt _ (by omega)]
    exact hu
  have HRD := Lib.hid hrd
  have HSL := Lib.hid hsl
  have HOFF := Lib.hid hoff
  obtain ⟨i0, hi, hz0, hz1, hz2⟩ := info_parts info37
  have hk0 : ((k : Int) == (k : Int) + 1) = false := by simp; omega
  have hi1 : (0 : Int) ≤ k := by omega
  have hi2 : (k : Int) + 1 ≤ l.length := by omega
  have hi3 : (l.length : Int) ≤ cap := by omega
  have hi4 : (k : Int) ≤ (k : Int) + 1 := by omega
  have hi5 : k + 1 ≤ l.length := by omega
  clear h hrd hsl hoff
  go_enter Try.func40, Try.ntmps40
  go_wp2_with fail
  clear hk0
  refine Rs.region 6 (delSp g l.length cap k off) [20, 21, 22, 23, 24, 25] rfl (by decide) (by kernel_rfl) (by kernel_rfl) (by kernel_rfl) ?_ ?_
  · intro vals V hb
    simp only [List.take_succ_cons, List.take_zero]
    refine ⟨Rs.stepL [] (by kernel_rfl) ?_, Rs.stepL [] (by kernel_rfl) ?_, Rs.stepL [20, 21] (by kernel_rfl) ?_, Rs.stepL [] (by kernel_rfl) ?_, Rs.stepL [] (by kernel_rfl) ?_, Rs.stepL [23, 24] (by kernel_rfl) ?_, trivial⟩
    · rintro -
      refine ⟨trivial, fun K hK => ?_⟩
      simp only [Rs.frm, List.foldl_cons, List.foldl_nil, Act.put, List.setIfInBounds_toArray, List.set_cons_succ, List.set_cons_zero] at hK ⊢
      have HK := Lib.hid hK
      clear hK
      go_wp2_with fail
      exact HK.out _ _ (Below.refl _ _) rfl
    · rintro -
      refine ⟨trivial, fun K hK => ?_⟩
      simp only [Rs.frm, List.foldl_cons, List.foldl_nil, Act.put, List.setIfInBounds_toArray, List.set_cons_succ, List.set_cons_zero] at hK ⊢
      have HK := Lib.hid hK
      clear hK
      go_wp2_with fail
      exact HK.out _ _ (Below.refl _ _) rfl
    · rintro ⟨h20, h21, -⟩
      have e20 : vals 20 = .slice (some ⟨g, 0, none⟩) l.length cap := h20
      have e21 : vals 21 = .int .i64 k := h21
      refine ⟨trivial, fun K hK => ?_⟩
      simp only [Rs.frm, List.foldl_cons, List.foldl_nil, Act.put, List.setIfInBounds_toArray, List.set_cons_succ, List.set_cons_zero, e20, e21] at hK ⊢
      have HK := Lib.hid hK
      clear hK
      go_wp2_with fail
      exact HK.out _ _ (Below.refl _ _) rfl
    · rintro -
      refine ⟨trivial, fun K hK => ?_⟩
      simp only [Rs.frm, List.foldl_cons, List.foldl_nil, Act.put, List.setIfInBounds_toArray, List.set_cons_succ, List.set_cons_zero] at hK ⊢
      have HK := Lib.hid hK
      clear hK
      go_wp2_with fail
      exact HK.out _ _ (Below.refl _ _) rfl
    · rintro -
      refine ⟨trivial, fun K hK => ?_⟩
      simp only [Rs.frm, List.foldl_cons, List.foldl_nil, Act.put, List.setIfInBounds_toArray, List.set_cons_succ, List.set_cons_zero] at hK ⊢
      have HK := Lib.hid hK
      clear hK
      go_wp2_with fail
      exact HK.out _ _ (Below.refl _ _) rfl
    · rintro ⟨h23, h24, -⟩
      have e23 : vals 23 = .slice (some ⟨g, 0, none⟩) l.length cap := h23
      have e24 : vals 24 = .int .i64 ((k : Int) + 1) := h24
      refine ⟨trivial, fun K hK => ?_⟩
      simp only [Rs.frm, List.foldl_cons, List.foldl_nil, Act.put, List.setIfInBounds_toArray, List.set_cons_succ, List.set_cons_zero, e23, e24] at hK ⊢
      have HK := Lib.hid hK
      clear hK
      by_cases hce : cap = k + 1
      · have ho := HOFF.out
        rw [if_pos hce] at ho
        have HO := Lib.hid ho
        clear ho
        go_wp2_with fail
        exact HK.out _ _ (Below.refl _ _) (by rw [HO.out]; exact congrArg (Value.slice (some ⟨g, 0, none⟩) (l.length - (k + 1))) (show 0 = cap - (k + 1) by omega))
      · have ho := HOFF.out
        rw [if_neg hce] at ho
        have HO := Lib.hid ho
        clear ho
        go_wp2_with fail
        exact HK.out _ _ (Below.refl _ _) (by rw [HO.out]; rfl)
  · intro vals V hb hL
    simp only [List.drop_succ_cons, List.drop_zero]
    obtain ⟨-, -, h22, -, -, h25, -⟩ := hL
    have e22 : vals 22 = .slice (some ⟨g, 0, none⟩) k cap := h22
    have e25 : vals 25 = .slice (some ⟨g, off, none⟩) (l.length - (k + 1)) (cap - (k + 1)) := h25
    simp only [Rs.frm, List.foldl_cons, List.foldl_nil, Act.put, List.setIfInBounds_toArray, List.set_cons_succ, List.set_cons_zero, e22, e25]
    have ho := own_cut (own_below H.out hb) (show k ≤ l.length by omega)
    rw [flat_take l k (by omega)] at ho
    have HOC := Lib.hid ho
    have HRV := Lib.hid (HRD.out V hb)
    clear ho e22 e25 h22 h25
    refine wpList_append_fits V rfl (.tmp 22) (.tmp 25) 23 rfl base 37 i0 2 Try.underlying23 hi hz1 g k cap _ rfl HOC.out ⟨g, off, none⟩ (l.length - (k + 1)) (cap - (k + 1)) ((l.drop (k + 1)).flatMap Pl.cs) rfl (by rw [flat_len Pl.cs 2 pl_len, List.length_drop]) HRV.out (pl_one _) (by omega) ?_
    intro w2 ho2 hgr2
    have hb2 : Below base w w2 := (hb.mono hbase).grown hgr2 (by have := hb.size; omega) (fun k e => by cases e; exact hgb)
    rw [show k + (l.length - (k + 1)) = l.length - 1 by omega, ← List.flatMap_append] at ho2
    obtain ⟨ys, hw, hy⟩ := own_widen ho2 (show l.length - 1 ≤ l.length by omega) hnc
    obtain ⟨w9, hcl, ho9, hb9⟩ := clear_row hw (show l.length - 1 ≤ l.length by omega) (cap - (l.length - 1))
    rw [hy] at ho9
    have HO9 := Lib.hid ho9
    have hb29 := hb2.trans hb9
    have hne : l.length - 1 ≠ cap := by omega
    obtain ⟨n1, hn1⟩ : ∃ n1, l.length = n1 + 1 := ⟨l.length - 1, by omega⟩
    have HN1 := Lib.hid hn1
    rw [show k + (l.length - (k + 1)) = l.length - 1 by omega]
    clear ho2 hw hy ho9 hgr2 hn1 hb9
    go_wp2_with fail
    go_ret
    exact ⟨rfl, hb29, HO9.out⟩
end Go.Proofs.Ytcmidhecmhbeoaa
